/-
  For every input of bulk at most 1048576 ModesMinimal returns true, and each argument reads afterwards as it read before (Rows.ModesMinimalUptoSaid).
  Condition: the statement's own bound on what the arguments hold.
-/
import Derived.Test.YthebfpolijajgaaExB
import Derived.Test.YthebfpolijajgaaMinPlain
import Derived.Deep.RegionHeld3
import Derived.JoinedCond
namespace Go.Proofs.Ythebfpolijajgaa
open Go.RowKit Go.Bs Go.ChangeShapes Go.WideShapes Go.ChangeAt Go.Joins Go.Mode

theorem bulk_append {H : Type} (l r : List (DataW H)) : Rows.uptoBulkAll (l ++ r) = Rows.uptoBulkAll l + Rows.uptoBulkAll r := by
  induction l with
  | nil => simp [Rows.uptoBulkAll]
  | cons x l ih => simp only [List.cons_append, Rows.uptoBulkAll, ih]; omega
theorem bulk_one {H : Type} (d : DataW H) : 1 ≤ Rows.uptoBulk d := by
  cases d with
  | lit l => cases l <;> simp [Rows.uptoBulk]
  | nil => simp [Rows.uptoBulk]
  | ptr d => simp [Rows.uptoBulk]
  | slice elems spare => simp [Rows.uptoBulk]
  | agg parts => simp [Rows.uptoBulk]
  | iface t d => simp [Rows.uptoBulk]
  | map entries => simp [Rows.uptoBulk]
  | held h => simp [Rows.uptoBulk]
theorem bulk_length {H : Type} (l : List (DataW H)) : l.length ≤ Rows.uptoBulkAll l := by
  induction l with
  | nil => simp [Rows.uptoBulkAll]
  | cons x r ih => have := bulk_one x; simp only [Rows.uptoBulkAll, List.length_cons]; omega

theorem slice_bulk {H : Type} {enc : TypeId × Value → H} {P : Program} {w : World} {base : Nat} {held : Bool} {t e : TypeId} {fuel : Nat} {ao : Option Addr} {n cap : Nat} {x : DataW H × List MemPlace}
    (ht : P.underlying t = some (.slice e)) (h : DataW.trod enc P w base (fun _ => true) held fuel t [.slice ao n cap] = some x) : n ≤ Rows.uptoBulk x.1 := by
  rcases Deep.open_slice ht h with ⟨hcs, _⟩ | ⟨a, len, cap', m, n', D, Pl, hcs, _, hl, hm, hmm, hx, _⟩
  · simp at hcs
    omega
  · simp at hcs
    obtain ⟨_, rfl, _⟩ := hcs
    rw [hx]
    simp only [Rows.uptoBulk]
    have := bulk_length ((List.range n).map D)
    simp at this
    omega

theorem segs_bulk {H : Type} {enc : TypeId × Value → H} {P : Program} {w : World} {base : Nat} {held : Bool} {t e tb tu : TypeId} {f0 f1 : Field} {fuel : Nat} {ao : Option Addr} {cap : Nat} {l : List SegD} {x : DataW H × List MemPlace}
    (ht : P.underlying t = some (.slice e)) (he : P.underlying e = some (.struct #[f0, f1])) (hc : P.cellsOf e = 2)
    (hb : P.underlying tb = some (.slice tu)) (hcb : P.cellsOf tb = 1) (h1 : f1.type = tb) (o1 : f1.offset = 1) (hs : Segs w ao l)
    (h : DataW.trod enc P w base (fun _ => true) held fuel t [.slice ao l.length cap] = some x) : (joinL l).length ≤ Rows.uptoBulk x.1 := by
  rcases Deep.open_slice ht h with ⟨hcs, _⟩ | ⟨a, len, cap', m, n', D, Pl, hcs, _, hlc, hm, hmm, hx, hD⟩
  · simp at hcs
    have hl0 := hcs.2.1
    subst hl0
    exact Nat.zero_le _
  · simp at hcs
    obtain ⟨rfl, hln, rfl⟩ := hcs
    subst hln
    simp only [if_true] at hmm
    have key : ∀ k, k ≤ l.length → (joinL (l.take k)).length ≤ Rows.uptoBulkAll ((List.range k).map D) := by
      intro k
      induction k with
      | zero => intro _; simp [joinL]
      | succ k ih =>
        intro hk
        have hkl : k < l.length := by omega
        have h1' := ih (by omega)
        rw [joinL_take l k hkl, List.length_append, List.range_succ, List.map_append, bulk_append]
        simp only [List.map_cons, List.map_nil, Rows.uptoBulkAll]
        obtain ⟨cs', g2, g3⟩ := hD k (by omega)
        rw [hc] at g2
        obtain ⟨y0, y1, n2, hxx, hlen, h4, h5⟩ := ChangeShapes.trod_struct2 he g3
        rw [hc] at hlen
        obtain ⟨_, _, hcell⟩ := World.cells?_some g2
        obtain ⟨b, off, v, ha, c0, c1, ao', cap2, hv, _, _, _, _⟩ := hs k l[k] (List.getElem?_eq_getElem hkl)
        have hab : a = ⟨b, off, none⟩ := by simpa using ha
        subst hab
        match cs', hlen with
        | [d0, d1], _ =>
          rw [h1, o1, hcb] at h5
          have e1 := hcell 1 (by decide)
          rw [add_add, Addr.add_lit, ← Nat.add_assoc, c1] at e1
          have e2 : d1 = .slice ao' l[k].2.length cap2 := by rw [← hv]; simpa using e1.symm
          have h6 := slice_bulk (n := l[k].2.length) (ao := ao') (cap := cap2) hb (by rw [← e2]; simpa using h5)
          have h7 : D k = .agg [y0.1, y1.1] := by have := congrArg Prod.fst hxx; simpa using this
          rw [h7]
          simp only [Rows.uptoBulk, Rows.uptoBulkAll]
          omega
    have := key l.length (Nat.le_refl _)
    rw [List.take_length] at this
    rw [hx]
    simp only [Rows.uptoBulk]
    omega

theorem joinL_len : ∀ (l : List SegD), (∀ s ∈ l, s.2 ≠ []) → l.length ≤ (joinL l).length := by
  intro l
  induction l with
  | nil => intro _; exact Nat.zero_le _
  | cons q l ih =>
    intro h
    have h1 := ih fun s hs => h s (List.mem_cons_of_mem _ hs)
    have h2 := List.length_pos_iff.2 (h q (by simp))
    have hj : joinL (q :: l) = q.2 ++ joinL l := rfl
    rw [hj, List.length_append, List.length_cons]
    omega

theorem wpAnyH_mono {P : Program} {md : Region.Mode} {ops : Array Oper} {Q : Exit → Act → World → Prop} {S S' : World → Prop} (hs : ∀ w, S' w → S w) :
    ∀ (fuel : Nat) (listed : Array Bool) (a : Act) (w : World), wpAnyH P md ops Q S' fuel listed a w → wpAnyH P md ops Q S fuel listed a w
  | 0, _, _, _, h => h
  | fuel + 1, _, _, _, h => ⟨h.1, fun i hi => wpOp_mono (fun a' w' h' => ⟨hs w' h'.1, wpAnyH_mono hs fuel _ a' w' h'.2⟩) (h.2 i hi)⟩



set_option maxRecDepth 20000 in
set_option maxHeartbeats 4000000 in
theorem modesMinimal_walk (ao : Option Addr) (len cap : Nat) (l : List SegD) (x : Int) (w : World) (hl : l.length = len) (hc : len ≤ cap) (hm : cap ≤ 9223372036854775807) (hr : Segs w ao l) (_ : ∀ q ∈ l, -9223372036854775808 ≤ q.1 ∧ q.1 ≤ 9223372036854775807) (hx : 0 ≤ x ∧ x ≤ 255) (hj : (joinL l).length ≤ 1048576) :
    Calls Try.prog 8 #[.slice ao len cap, .int .u8 x] w fun e w' => e = .returned (.bool true) ∧ Ext w w' := by
  subst hl
  obtain ⟨k, hk, hk2, hk3⟩ : ∃ k : Nat, x % 3 = k ∧ x.tmod 3 = k ∧ k ≤ 2 := ⟨(x % 3).toNat, by omega, by rw [Int.tmod_eq_emod_of_nonneg hx.1]; omega, by omega⟩
  have HR := Lib.hid hr
  clear hr
  obtain ⟨n, hn⟩ : ∃ n, n = l.length := ⟨_, rfl⟩
  have HSM := fun (W : World) (h : Ext w W) => Lib.hid (small_any ao cap l W (by omega) (HR.out.ext h))
  have HRJ := fun (W : World) (h : Ext w W) => Lib.hid (rjoin_any ao cap l W (by omega) (HR.out.ext h) (by omega))
  rw [← hn] at HSM HRJ hc ⊢
  have HN := Lib.hid hn
  clear hn
  obtain ⟨A, hA⟩ : ∃ r, r = bitsRes l k := ⟨_, rfl⟩
  have HA := Lib.hid hA
  clear hA
  obtain ⟨T, E⟩ := A
  obtain ⟨J, hJ⟩ : ∃ J, J = joinL l := ⟨_, rfl⟩
  have HJ := Lib.hid hJ
  rw [← hJ] at HRJ hj
  clear hJ
  obtain ⟨B, hB⟩ : ∃ B, B = smallB l := ⟨_, rfl⟩
  rw [← hB] at HSM
  have hcases : (B = false) ∨ (B = true ∧ (E != 0) = true) ∨ (B = true ∧ E = 0 ∧ 600 < J.length) ∨ (B = true ∧ E = 0 ∧ J.length ≤ 600) := by
    by_cases h1 : B = false
    · exact Or.inl h1
    · have h1 : B = true := by simpa using h1
      by_cases h2 : E = 0
      · by_cases h3 : 600 < J.length
        · exact Or.inr (Or.inr (Or.inl ⟨h1, h2, h3⟩))
        · exact Or.inr (Or.inr (Or.inr ⟨h1, h2, by omega⟩))
      · exact Or.inr (Or.inl ⟨h1, by simpa using h2⟩)
  clear hB
  rcases hcases with rfl | ⟨rfl, h2⟩ | ⟨rfl, rfl, h3⟩ | ⟨rfl, rfl, h3⟩
  case inr.inr.inr =>
    skip
    go_enter Try.func8, Try.ntmps8
    go_wp2_with fail
    refine (bits_any ao n cap l k w HN.out.symm hc hm HR.out).mono ?_
    rw [← HA.out]
    rintro e w1 ⟨rfl, hx1⟩
    simp only [two]
    have HX1 := Lib.hid hx1
    clear hx1
    go_wp2_with fail
    refine (HRJ w1 HX1.out).out.mono ?_
    intro e w2 hret
    obtain ⟨b2, c2, rfl, hjr, hc2, hm2, hn2, hx2⟩ := hret.byts
    have HJR := Lib.hid hjr
    have HX2 := Lib.hid (HX1.out.trans hx2)
    clear hret hx2 hjr
    go_wp2_with fail
    refine (HSM w2 HX2.out).out.mono ?_
    rintro e w' ⟨rfl, rfl⟩
    go_wp2_with fail
    obtain ⟨k', hkk, _, h4096, hok, ht, hT⟩ := bits_from HA.out.symm
    obtain rfl : k = k' := by omega
    obtain ⟨hval, hjl, htot⟩ := best_valid k J.length J (Nat.le_refl _)
    have hmin := best_min k l hok
    rw [← HJ.out, ← htot] at hmin
    have hbb := plan_bd k J.length J rfl
    have hlen : (bestL k J).length ≤ 600 := by
      have h := joinL_len (bestL k J) (fun s hs => (hval s hs).2)
      rw [hjl] at h
      omega
    have HBI : Hid (bitsRes (bestL k J) k = ((total k (bestL k J) : Int), 0)) := bits_ok k hk3 _ (by omega) (fun q hq => (hval q hq).1) (by rw [htot]; omega)
    have HBE : Hid (bestRes J k = (bestL k J, (total k (bestL k J) : Int), 0)) := by
      refine Lib.hid ?_
      unfold bestRes
      rw [if_neg (by omega), if_neg (by omega), htot]
      simp
    have hdk : decide ((total k (bestL k J) : Int) ≤ T) = true := by simp; omega
    have HNE : Hid (∀ s ∈ bestL k J, s.2 ≠ []) := fun s hs => (hval s hs).2
    have htb : total k (bestL k J) ≤ 1048576 := by rw [htot]; omega
    obtain ⟨L, hL⟩ : ∃ L, L = bestL k J := ⟨_, rfl⟩
    rw [← hL] at HBI HBE hdk hlen hjl htb HNE
    have HJL := Lib.hid hjl
    obtain ⟨tt, htt⟩ : ∃ tt, tt = total k L := ⟨_, rfl⟩
    rw [← htt] at HBI HBE hdk htb
    obtain ⟨nl, hnl⟩ : ∃ nl, nl = L.length := ⟨_, rfl⟩
    have HRJ2 := fun (b : Option Addr) (c : Nat) (W : World) (h : Segs W b L) => Lib.hid (rjoin_any b c L W (by omega) h (by rw [hjl]; omega))
    rw [hjl, ← hnl] at HRJ2
    have HNL := Lib.hid hnl
    rw [← hnl] at hlen
    clear hkk h4096 hok ht hT hval hjl htot hmin hbb hL htt hnl
    have HCV := fun (b : Option Addr) (c : Nat) (W0 W : World) (h : Row W0 b (byts J)) (hW : Ext W0 W) => Lib.hid (run_toString (P := Try.prog) (src := 22) (dst := 9) (c := c) Try.underlying22 Try.underlying5 Try.underlying9 (h.ext hW) rfl)
    refine (best_any b2 J.length c2 J k w2 rfl hc2 hm2 hn2 HJR.out).mono ?_
    rw [HBE.out]
    rintro e w3 ⟨sao, scap, rfl, hs3, hcl3, hcm3, hx3⟩
    simp only at hs3 hcl3 ⊢
    have HX3 := Lib.hid (HX2.out.trans hx3)
    have HJR3 := Lib.hid (HJR.out.ext hx3)
    have HS3 := Lib.hid hs3.segs
    rw [← HNL.out] at hcl3 ⊢
    clear hs3 hx3
    go_wp2_with fail
    refine (bits_any sao nl scap L k w3 HNL.out.symm hcl3 hcm3 HS3.out).mono ?_
    rw [HBI.out]
    rintro e w4 ⟨rfl, hx4⟩
    simp only [two]
    have HX4 := Lib.hid (HX3.out.trans hx4)
    have HJR4 := Lib.hid (HJR3.out.ext hx4)
    have HS4 := Lib.hid (HS3.out.ext hx4)
    clear hx4
    obtain ⟨wB, hwB⟩ : ∃ wB, wB = w4 := ⟨_, rfl⟩
    subst hwB
    go_wp2_with fail
    go_loopw [14] (fun i wr => ∃ j : Nat, j ≤ nl ∧ i = .int .i64 j ∧ wr = wB) (fun i _ => nl - (intOf i).toNat)
    case atStart => exact ⟨0, Nat.zero_le _, rfl, rfl⟩
    case round =>
      obtain ⟨j, hj2, rfl, rfl⟩ := hrel
      by_cases hlt : j < nl
      · have hkl : j < L.length := by rw [← HNL.out]; exact hlt
        obtain ⟨b0, off0, v0, ha0, hc0, hc1, ao', ac, rfl, har, hal, ham, han⟩ := HS4.out j L[j] (List.getElem?_eq_getElem hkl)
        subst ha0
        have hne := List.length_pos_iff.2 (HNE.out L[j] (List.getElem_mem hkl))
        obtain ⟨pl, hpl⟩ : ∃ pl, pl = L[j].2.length := ⟨_, rfl⟩
        rw [← hpl] at hne hc1 hal
        clear hpl har
        have hne2 : ((pl : Int) == 0) = false := by simp; omega
        go_wp2_with fail
        go_roundw
        case rel => exact ⟨j + 1, by omega, int_eq (by omega), trivial⟩
        case measure => simp [intOf]; omega
      · go_wp2_with fail
        have cvp := fun (W : World) (h : Ext wr W) => (HCV b2 c2 wr W HJR4.out h).out
        refine wp_region_held_drew (S := fun W => Ext wr W) (by kernel_rfl) (Ext.drew _) (fun hHeld => ?_)
        skip
        refine wpAnyH_take (i := 0) (v := ?_) rfl (by kernel_rfl) (by kernel_rfl) (by kernel_rfl) (fun _ _ _ h => h) (Or.inl ⟨by rfl, ?_⟩) (by assumption) ?_
        rotate_left
        · (intro w hSw; try dsimp only at hSw); go_simp; try with_reducible rfl
        simp only [List.getElem_toArray, List.getElem_cons_zero, Act.put, List.setIfInBounds_toArray, List.set_cons_zero, List.set_cons_succ]
        skip
        refine wpAnyH_take (i := 1) (v := ?_) rfl (by kernel_rfl) (by kernel_rfl) (by kernel_rfl) (fun _ _ _ h => h) (Or.inl ⟨by rfl, ?_⟩) (by assumption) ?_
        rotate_left
        · (intro w hSw; try dsimp only at hSw); go_simp; try with_reducible rfl
        simp only [List.getElem_toArray, List.getElem_cons_zero, List.getElem_cons_succ, Act.put, List.setIfInBounds_toArray, List.set_cons_zero, List.set_cons_succ]
        skip
        refine wpAnyH_take (i := 2) (v := ?_) rfl (by kernel_rfl) (by kernel_rfl) (by kernel_rfl) (fun _ _ _ h => h) (Or.inl ⟨by rfl, ?_⟩) (by assumption) ?_
        rotate_left
        · (intro w hSw; try dsimp only at hSw); go_simp; try with_reducible rfl
        simp only [List.getElem_toArray, List.getElem_cons_zero, List.getElem_cons_succ, Act.put, List.setIfInBounds_toArray, List.set_cons_zero, List.set_cons_succ]
        skip
        refine wpAnyH_take (i := 3) (v := ?_) rfl (by kernel_rfl) (by kernel_rfl) (by kernel_rfl) (fun _ _ _ h => h) (Or.inl ⟨by rfl, ?_⟩) (by assumption) ?_
        rotate_left
        · (intro w hSw; try dsimp only at hSw); go_simp; try with_reducible rfl
        simp only [List.getElem_toArray, List.getElem_cons_zero, List.getElem_cons_succ, Act.put, List.setIfInBounds_toArray, List.set_cons_zero, List.set_cons_succ]
        skip
        refine wpAnyH_take (i := 4) (v := ?_) rfl (by kernel_rfl) (by kernel_rfl) (by kernel_rfl) (fun _ _ _ h => h) (Or.inl ⟨by rfl, ?_⟩) (by assumption) ?_
        rotate_left
        · (intro w hSw; try dsimp only at hSw); go_simp; try with_reducible rfl
        simp only [List.getElem_toArray, List.getElem_cons_zero, List.getElem_cons_succ, Act.put, List.setIfInBounds_toArray, List.set_cons_zero, List.set_cons_succ]
        skip
        refine wpAnyH_take (i := 5) (v := ?_) rfl (by kernel_rfl) (by kernel_rfl) (by kernel_rfl) (fun _ _ _ h => h) (Or.inl ⟨by rfl, ?_⟩) (by assumption) ?_
        rotate_left
        · (intro w hSw; try dsimp only at hSw); go_simp; try with_reducible rfl
        simp only [List.getElem_toArray, List.getElem_cons_zero, List.getElem_cons_succ, Act.put, List.setIfInBounds_toArray, List.set_cons_zero, List.set_cons_succ]
        skip
        refine wpAnyH_take (i := 6) (v := ?_) rfl (by kernel_rfl) (by kernel_rfl) (by kernel_rfl) (fun _ _ _ h => h) (Or.inl ⟨by rfl, ?_⟩) (by assumption) ?_
        rotate_left
        · (intro w hSw; try dsimp only at hSw); go_simp; try with_reducible rfl
        simp only [List.getElem_toArray, List.getElem_cons_zero, List.getElem_cons_succ, Act.put, List.setIfInBounds_toArray, List.set_cons_zero, List.set_cons_succ]
        skip
        refine wpAnyH_take (i := 7) (v := ?_) rfl (by kernel_rfl) (by kernel_rfl) (by kernel_rfl) (fun _ _ _ h => h) (Or.inl ⟨by rfl, ?_⟩) (by assumption) ?_
        rotate_left
        · (intro w hSw; try dsimp only at hSw); go_simp; try with_reducible rfl
        simp only [List.getElem_toArray, List.getElem_cons_zero, List.getElem_cons_succ, Act.put, List.setIfInBounds_toArray, List.set_cons_zero, List.set_cons_succ]
        skip
        refine wpAnyH_take (i := 8) (v := ?_) rfl (by kernel_rfl) (by kernel_rfl) (by kernel_rfl) (fun _ _ _ h => h) (Or.inl ⟨by rfl, ?_⟩) (by assumption) ?_
        rotate_left
        · (intro w hSw; try dsimp only at hSw); go_simp; try with_reducible rfl
        simp only [List.getElem_toArray, List.getElem_cons_zero, List.getElem_cons_succ, Act.put, List.setIfInBounds_toArray, List.set_cons_zero, List.set_cons_succ]
        skip
        refine wpAnyH_take (i := 9) (v := ?_) rfl (by kernel_rfl) (by kernel_rfl) (by kernel_rfl) (fun _ _ _ h => h) (Or.inl ⟨by rfl, ?_⟩) (by assumption) ?_
        rotate_left
        · (intro w hSw; try dsimp only at hSw); go_simp; try with_reducible rfl
        simp only [List.getElem_toArray, List.getElem_cons_zero, List.getElem_cons_succ, Act.put, List.setIfInBounds_toArray, List.set_cons_zero, List.set_cons_succ]
        skip
        refine wpAnyH_take (i := 10) (v := ?_) rfl (by kernel_rfl) (by kernel_rfl) (by kernel_rfl) (fun _ _ _ h => h) (Or.inl ⟨by rfl, ?_⟩) (by assumption) ?_
        rotate_left
        · (intro w hSw; try dsimp only at hSw); go_simp; try with_reducible rfl
        simp only [List.getElem_toArray, List.getElem_cons_zero, List.getElem_cons_succ, Act.put, List.setIfInBounds_toArray, List.set_cons_zero, List.set_cons_succ]
        skip
        refine wpAnyH_take (i := 11) (v := ?_) rfl (by kernel_rfl) (by kernel_rfl) (by kernel_rfl) (fun _ _ _ h => h) (Or.inl ⟨by rfl, ?_⟩) (by assumption) ?_
        rotate_left
        · (intro w hSw; try dsimp only at hSw); go_simp; try with_reducible rfl
        simp only [List.getElem_toArray, List.getElem_cons_zero, List.getElem_cons_succ, Act.put, List.setIfInBounds_toArray, List.set_cons_zero, List.set_cons_succ]
        skip
        refine wpAnyH_take (i := 12) (v := ?_) rfl (by kernel_rfl) (by kernel_rfl) (by kernel_rfl) (fun _ _ _ h => h) (Or.inl ⟨by rfl, ?_⟩) (by assumption) ?_
        rotate_left
        · (intro w hSw; try dsimp only at hSw); go_simp; try with_reducible rfl
        simp only [List.getElem_toArray, List.getElem_cons_zero, List.getElem_cons_succ, Act.put, List.setIfInBounds_toArray, List.set_cons_zero, List.set_cons_succ]
        skip
        refine wpAnyH_take (i := 13) (v := ?_) rfl (by kernel_rfl) (by kernel_rfl) (by kernel_rfl) (fun _ _ _ h => h) (Or.inl ⟨by rfl, ?_⟩) (by assumption) ?_
        rotate_left
        · (intro w hSw; try dsimp only at hSw); go_simp; try with_reducible rfl
        simp only [List.getElem_toArray, List.getElem_cons_zero, List.getElem_cons_succ, Act.put, List.setIfInBounds_toArray, List.set_cons_zero, List.set_cons_succ]
        skip
        refine wpAnyH_take (i := 14) (v := ?_) rfl (by kernel_rfl) (by kernel_rfl) (by kernel_rfl) (fun _ _ _ h => h) (Or.inl ⟨by rfl, ?_⟩) (by assumption) ?_
        rotate_left
        · (intro w hSw; try dsimp only at hSw); go_simp; try with_reducible rfl
        simp only [List.getElem_toArray, List.getElem_cons_zero, List.getElem_cons_succ, Act.put, List.setIfInBounds_toArray, List.set_cons_zero, List.set_cons_succ]
        skip
        refine wpAnyH_take (i := 15) (v := ?_) rfl (by kernel_rfl) (by kernel_rfl) (by kernel_rfl) (fun _ _ _ h => h) (Or.inl ⟨by rfl, ?_⟩) (by assumption) ?_
        rotate_left
        · (intro w hSw; try dsimp only at hSw); go_simp; try with_reducible rfl
        simp only [List.getElem_toArray, List.getElem_cons_zero, List.getElem_cons_succ, Act.put, List.setIfInBounds_toArray, List.set_cons_zero, List.set_cons_succ]
        skip
        refine wpAnyH_take (i := 16) (v := ?_) rfl (by kernel_rfl) (by kernel_rfl) (by kernel_rfl) (fun _ _ _ h => h) (Or.inl ⟨by rfl, ?_⟩) (by assumption) ?_
        rotate_left
        · (intro w hSw; try dsimp only at hSw); go_simp; try with_reducible rfl
        simp only [List.getElem_toArray, List.getElem_cons_zero, List.getElem_cons_succ, Act.put, List.setIfInBounds_toArray, List.set_cons_zero, List.set_cons_succ]
        skip
        refine wpAnyH_take (i := 17) (v := ?_) rfl (by kernel_rfl) (by kernel_rfl) (by kernel_rfl) (fun _ _ _ h => h) (Or.inl ⟨by rfl, ?_⟩) (by assumption) ?_
        rotate_left
        · (intro w hSw; try dsimp only at hSw); go_simp; try with_reducible rfl
        simp only [List.getElem_toArray, List.getElem_cons_zero, List.getElem_cons_succ, Act.put, List.setIfInBounds_toArray, List.set_cons_zero, List.set_cons_succ]
        skip
        refine wpAnyH_take (i := 20) (v := ?_) rfl (by kernel_rfl) (by kernel_rfl) (by kernel_rfl) (fun _ _ _ h => h) (Or.inl ⟨by rfl, ?_⟩) (by assumption) ?_
        rotate_left
        · (intro w hSw; try dsimp only at hSw); go_simp; try with_reducible rfl
        simp only [List.getElem_toArray, List.getElem_cons_zero, List.getElem_cons_succ, Act.put, List.setIfInBounds_toArray, List.set_cons_zero, List.set_cons_succ]
        skip
        refine wpAnyH_take (i := 21) (v := ?_) rfl (by kernel_rfl) (by kernel_rfl) (by kernel_rfl) (fun _ _ _ h => h) (Or.inl ⟨by rfl, ?_⟩) (by assumption) ?_
        rotate_left
        · (intro w hSw; try dsimp only at hSw); go_simp; try with_reducible rfl
        simp only [List.getElem_toArray, List.getElem_cons_zero, List.getElem_cons_succ, Act.put, List.setIfInBounds_toArray, List.set_cons_zero, List.set_cons_succ]
        refine wpAnyH_ready (rs := [18]) (by kernel_rfl) (by simp) ?_
        refine AllReadyH.cons rfl (fun K hK => ?_) AllReadyH.nil
        go_simp
        skip
        go_at_call 30
        (with_reducible refine (HRJ2 sao scap _ (HS4.out.ext hHeld)).out.mono ?_)
        intro e w6 hret
        obtain ⟨b6, c6, rfl, h6, _, _, _, hx6⟩ := hret.byts
        clear hret
        go_wp2_with fail
        skip
        have hcur6 := hHeld.trans hx6
        refine hK.out _ _ hcur6 (fun _ => ?_)
        clear hK K
        have hH6 : Ext w6 w6 := Ext.refl _
        have cv6 := fun (W : World) (h : Ext w6 W) => (HCV b6 c6 w6 W h6 h).out
        refine wpAnyH_mono (S' := fun W => Ext w6 W) (fun W h => hcur6.trans h) _ _ _ _ ?_
        skip
        refine wpAnyH_take (i := 19) (v := ?_) rfl (by kernel_rfl) (by kernel_rfl) (by kernel_rfl) (fun _ _ _ h => h) (Or.inl ⟨by rfl, ?_⟩) (by assumption) ?_
        rotate_left
        · (intro w hSw; try dsimp only at hSw); go_simp; try with_reducible rfl
        simp only [List.getElem_toArray, List.getElem_cons_zero, List.getElem_cons_succ, Act.put, List.setIfInBounds_toArray, List.set_cons_zero, List.set_cons_succ]
        skip
        refine wpAnyH_take (i := 22) (v := ?_) rfl (by kernel_rfl) (by kernel_rfl) (by kernel_rfl) (fun _ _ _ h => h) (Or.inl ⟨by rfl, ?_⟩) (by assumption) ?_
        rotate_left
        · (intro w hSw; try dsimp only at hSw); go_simp; try with_reducible rfl
        simp only [List.getElem_toArray, List.getElem_cons_zero, List.getElem_cons_succ, Act.put, List.setIfInBounds_toArray, List.set_cons_zero, List.set_cons_succ]
        skip
        refine wpAnyH_take (i := 23) (v := ?_) rfl (by kernel_rfl) (by kernel_rfl) (by kernel_rfl) (fun _ _ _ h => h) (Or.inl ⟨by rfl, ?_⟩) (by assumption) ?_
        rotate_left
        · (intro w hSw; try dsimp only at hSw); go_simp; try with_reducible rfl
        simp only [List.getElem_toArray, List.getElem_cons_zero, List.getElem_cons_succ, Act.put, List.setIfInBounds_toArray, List.set_cons_zero, List.set_cons_succ]
        skip
        refine wpAnyH_take (i := 24) (v := ?_) rfl (by kernel_rfl) (by kernel_rfl) (by kernel_rfl) (fun _ _ _ h => h) (Or.inl ⟨by rfl, ?_⟩) (by assumption) ?_
        rotate_left
        · (intro w hSw; try dsimp only at hSw); go_simp; try with_reducible rfl
        simp only [List.getElem_toArray, List.getElem_cons_zero, List.getElem_cons_succ, Act.put, List.setIfInBounds_toArray, List.set_cons_zero, List.set_cons_succ]
        refine wpAnyH_ready (rs := [25]) (by kernel_rfl) (by simp) ?_
        refine AllReadyH.cons rfl (fun K hK => ?_) AllReadyH.nil
        go_simp
        go_at_call 20
        (with_reducible refine (example_any _).mono ?_)
        rintro e w8 ⟨rfl, hx8⟩
        go_wp2_with fail
        refine hK.out _ _ hx8 (fun _ => ?_)
        clear hK K
        have hcur8 := hcur6.trans hx8
        skip
        refine wpAnyH_take (i := 26) (v := ?_) rfl (by kernel_rfl) (by kernel_rfl) (by kernel_rfl) (fun _ _ _ h => h) (Or.inl ⟨by rfl, ?_⟩) (by assumption) ?_
        rotate_left
        · (intro w hSw; try dsimp only at hSw); go_simp; try with_reducible rfl
        simp only [List.getElem_toArray, List.getElem_cons_zero, List.getElem_cons_succ, Act.put, List.setIfInBounds_toArray, List.set_cons_zero, List.set_cons_succ]
        skip
        refine wpAnyH_take (i := 27) (v := ?_) rfl (by kernel_rfl) (by kernel_rfl) (by kernel_rfl) (fun _ _ _ h => h) (Or.inl ⟨by rfl, ?_⟩) (by assumption) ?_
        rotate_left
        · (intro w hSw; try dsimp only at hSw); go_simp; try with_reducible rfl
        simp only [List.getElem_toArray, List.getElem_cons_zero, List.getElem_cons_succ, Act.put, List.setIfInBounds_toArray, List.set_cons_zero, List.set_cons_succ]
        refine wpAnyH_done (by kernel_rfl) ?_ _
        go_wp2_with fail
        go_ret
        exact ⟨rfl, HX4.out.trans hcur8⟩
  all_goals
    skip
    go_enter Try.func8, Try.ntmps8
    go_wp2_with fail
    refine (bits_any ao n cap l k w HN.out.symm hc hm HR.out).mono ?_
    rw [← HA.out]
    rintro e w1 ⟨rfl, hx1⟩
    simp only [two]
    have HX1 := Lib.hid hx1
    clear hx1
    go_wp2_with fail
    refine (HRJ w1 HX1.out).out.mono ?_
    intro e w2 hret
    obtain ⟨b2, c2, rfl, hjr, hc2, hm2, hn2, hx2⟩ := hret.byts
    have HJR := Lib.hid hjr
    have HX2 := Lib.hid (HX1.out.trans hx2)
    clear hret hx2 hjr
    go_wp2_with fail
    refine (HSM w2 HX2.out).out.mono ?_
    rintro e w' ⟨rfl, rfl⟩
    go_wp2_with fail
    refine (example_any _).mono ?_
    rintro e w6 ⟨rfl, hx6⟩
    go_wp2_with fail
    go_ret
    exact ⟨rfl, HX2.out.trans hx6⟩

set_option maxRecDepth 100000 in
theorem modesMinimal_lifted (os : Os) (started : os.Started) (H : Type) (enc : TypeId × Value → H) (F : Stop.Interp) :
    ReturnsInHanded {} Try.checked os 8 .any ((Rows.OpenSpec.upto Rows.modesMinimalSpec).pre6 enc Try.prog Try.f8 Rows.modesMinimalUptoRow.domain false) (((Rows.OpenSpec.upto Rows.modesMinimalSpec).at F).post enc Try.prog Try.f8 false true false false) := by
  refine returnsInHanded_of_cond (C := Try.checked) (s := Rows.OpenSpec.upto Rows.modesMinimalSpec) (k := Rows.uptoSmall) rfl Try.own started (by kernel_rfl) Try.func8
    (OpenSpec.witness (enc := enc) (C := Try.checked) (s := Rows.OpenSpec.upto Rows.modesMinimalSpec) (k := Rows.uptoSmall) rfl false ⟨#[], #[.slice none 0 0, .int .u8 0], []⟩ 8 (by kernel_rfl) (by kernel_rfl) (by kernel_rfl)
      (x := ([.nil, .lit (.int .u8 0)], [], [])) (by kernel_rfl) rfl (by kernel_rfl)) ?_
  intro W base args ds gs before hval0 hW _ hk _
  have hval : ∀ (j : Nat) t v, Try.f8.params[j]? = some t → args[j]? = some v → Value.okWide Try.prog W .any base t v := hval0
  have hW' := hW
  obtain ⟨p, q, hA0, hV, rfl, _, _⟩ := hW
  have hA : DataW.TrodAll enc Try.prog W 0 (fun _ => true) true Try.f8.params.toList args.toList ds p := hA0
  rw [Try.params8] at hA hval
  obtain ⟨rfl, rfl⟩ := trodVars_none hV
  clear hA0 hval0
  simp only [List.append_nil] at hW'
  have hlt : ∀ x ∈ p, x.block < W.heap.size := fun x hx => by simpa using hW'.lt x hx
  have hstay : ∀ W', Below W.heap.size W W' → _ := fun W' hb => args_stay (enc := enc) Try.laidOut hb _ _ _ _ (by kernel_rfl) hA hlt
  obtain ⟨v0, v1, d0, d1, p0, p1, rfl, rfl, rfl, h0, h1⟩ := trodAll_two hA
  obtain ⟨fuel0, hf0⟩ := h0
  obtain ⟨aq0, lq0, cq0, rfl⟩ := okWide_slice Try.underlying25 (hval 0 25 v0 rfl rfl)
  obtain ⟨sl0, ao0, len0, cap0, hv0, hl0, hc0, hm0, hr0, hw0⟩ := view_segs Try.underlying25 Try.underlying33 Try.underlying31 (by kernel_rfl) (by kernel_rfl) Try.underlying22 Try.underlying5 (by kernel_rfl) (by kernel_rfl) rfl rfl rfl rfl hf0
  cases hv0
  obtain ⟨x1, rfl, rfl, rfl, wx1⟩ := open_int Try.underlying5 (hval 1 5 v1 rfl rfl) h1
  refine (modesMinimal_walk aq0 lq0 cq0 sl0 x1 W hl0 hc0 hm0 hr0 (fun q hq => wf_i64_bd (hw0 q hq)) (wf_u8_bd wx1) (by have h := segs_bulk Try.underlying25 Try.underlying33 (by kernel_rfl) Try.underlying22 (by kernel_rfl) rfl rfl hr0 (by rw [hl0]; exact hf0); have hb := of_decide_eq_true hk; simp only [List.append_nil, Rows.uptoBulkAll] at hb; simp only at h; omega)).mono fun e W' ⟨he, hb⟩ => ?_
  subst he
  exact ⟨_, rfl, _, _, _, [], _, [], hW', trodAll_mk1 (shut_bool Try.underlying4 _), hstay W' hb, rfl, hb.frame _, fun h => by cases h⟩

theorem modesMinimal_holds : Rows.ModesMinimalUptoSaid :=
  OpenClaim.holds_of_cond 8 Try.f8 rfl rfl rfl rfl rfl rfl rfl ⟨rfl, rfl, rfl, rfl, rfl⟩ rfl rfl rfl rfl rfl (by kernel_rfl) Try.func8 (by kernel_rfl)
    (of_decide_eq_true (by kernel_rfl)) (by unfold Func.isWrapper; first | (rw [if_pos (by decide +kernel)]; kernel_rfl) | (rw [if_neg (by decide +kernel)]; exact ⟨rfl, rfl⟩))
    (fun os started H enc _ F => modesMinimal_lifted os started H enc F)


end Go.Proofs.Ythebfpolijajgaa
