/-
  The contract of qrlayout.Fill.
  Conditions: a matrix of a version's size; or one that is not; at most 2^20 codewords.
  The contract of qrlayout.Extract.
  Conditions: a matrix of a version's size; or one that is not.
-/
import Derived.Test.YtjkpdhcnklgfbaaPathA
import Derived.Test.YtjkpdhcnklgfbaaForm
import Derived.Test.YtjkpdhcnklgfbaaBitsD
namespace Go.Lay
open Go.Bs
/-- The first j modules of a path get bits. -/
def flT (k : Nat) (ps : List (Nat × Nat)) (bs xs : List Bool) : Nat → List Bool
  | 0 => xs
  | j + 1 => match ps[j]? with
    | some p => (flT k ps bs xs j).set (posOf k p) (bs.getD j false)
    | none => flT k ps bs xs j
theorem flT_succ {k : Nat} {ps : List (Nat × Nat)} {bs xs : List Bool} {j : Nat} {p : Nat × Nat} (h : ps[j]? = some p) : flT k ps bs xs (j + 1) = (flT k ps bs xs j).set (posOf k p) (bs.getD j false) := by
  show (match ps[j]? with | some p => (flT k ps bs xs j).set (posOf k p) (bs.getD j false) | none => flT k ps bs xs j) = _
  rw [h]
theorem flT_len (k : Nat) (ps : List (Nat × Nat)) (bs xs : List Bool) : ∀ j, (flT k ps bs xs j).length = xs.length
  | 0 => rfl
  | j + 1 => by
    unfold flT
    split
    · rw [List.length_set, flT_len]
    · exact flT_len k ps bs xs j
theorem flT_app (k : Nat) (ps qs : List (Nat × Nat)) (bs xs : List Bool) : ∀ j, j ≤ ps.length → flT k (ps ++ qs) bs xs j = flT k ps bs xs j
  | 0, _ => rfl
  | j + 1, h => by
    obtain ⟨p, hp⟩ : ∃ p, ps[j]? = some p := ⟨_, List.getElem?_eq_getElem (by omega)⟩
    rw [flT_succ hp, flT_succ (p := p) (by rw [List.getElem?_append_left (by omega)]; exact hp), flT_app k ps qs bs xs j (by omega)]
/-- All of them. -/
def flL (k : Nat) (ps : List (Nat × Nat)) (bs xs : List Bool) : List Bool := flT k ps bs xs ps.length
theorem flL_snoc (k : Nat) (ps : List (Nat × Nat)) (p : Nat × Nat) (bs xs : List Bool) : flL k (ps ++ [p]) bs xs = (flL k ps bs xs).set (posOf k p) (bs.getD ps.length false) := by
  unfold flL
  rw [List.length_append, List.length_singleton, flT_succ (p := p) (by simp), flT_app k ps [p] bs xs _ (Nat.le_refl _)]
theorem flL_len (k : Nat) (ps : List (Nat × Nat)) (bs xs : List Bool) : (flL k ps bs xs).length = xs.length := flT_len _ _ _ _ _
end Go.Lay
namespace Go.Proofs.Ytjkpdhcnklgfbaa
open Go.RowKit Go.Bs Go.Qrv Go.Lay Go.Shelf

attribute [local go_sem] Oper.semAt_some

/-- What Fill returns. -/
def fillRes (n : Nat) (xs : List Bool) (ws : List Int) : (Int × Int × List Bool) × Int :=
  if (ws.length : Int) ≠ wordsN n then ((0, 0, []), 7) else if ws.all (okw 8) = true then ((sd n, sd n, flL (sd n) (pathN n) (fromTo ws 8 ws.length) xs), 0) else ((0, 0, []), 3)
theorem wordsN_all : ∀ i : Fin 41, wordsN i.val ≤ 3706 := by decide +kernel
theorem wordsN_le (n : Nat) (h : n ≤ 40) : wordsN n ≤ 3706 := wordsN_all ⟨n, by omega⟩
theorem take_all (l : List Int) (i : Nat) (h : i < l.length) (h1 : (l.take i).all (okw 8) = true) (h2 : okw 8 l[i] = true) : (l.take (i + 1)).all (okw 8) = true := by
  rw [List.take_succ_eq_append_getElem h, List.all_append, h1]
  simpa using h2
theorem not_all (l : List Int) (i : Nat) (h : i < l.length) (h2 : ¬ okw 8 l[i] = true) : ¬ l.all (okw 8) = true := fun e => h2 (List.all_eq_true.1 e _ (List.getElem_mem h))



set_option maxRecDepth 100000 in
set_option maxHeartbeats 4000000 in
theorem fill_ok (n : Nat) (h1 : 1 ≤ n) (h2 : n ≤ 40) (xs : List Bool) (ao : Option Addr) (cap : Nat) (ws : List Int) (wo : Option Addr) (wl wc : Nat) (w : World) (hl : xs.length = sd n * sd n) (hn0 : ao = none → cap = 0) (hr : Row w ao (bools xs))
    (hwl : ws.length = wl) (hwb : wl ≤ 1048576) (hwc : wl ≤ wc) (hwr : Row w wo (ints ws)) :
    Calls Try.prog 30 #[.agg (matV (sd n) (sd n) ao (sd n * sd n) cap), .slice wo wl wc] w (RetMat 4 w (fillRes n xs ws)) := by
  have hsb : 21 ≤ sd n ∧ sd n ≤ 177 := by unfold sd; omega
  have hin : inV n := ⟨by omega, by omega⟩
  have hQb : 441 ≤ sd n * sd n ∧ sd n * sd n ≤ 31329 := ⟨Nat.mul_le_mul hsb.1 hsb.1, Nat.mul_le_mul hsb.2 hsb.2⟩
  have HLO := fun (V : World) => Lib.hid (layoutOf_ok n h1 h2 ao cap V)
  have HCW := fun (V : World) => Lib.hid (codewords_any n V)
  rw [cwRes_1 hin] at HCW
  unfold RetLay at HLO
  unfold three at HCW
  unfold matV at *
  simp only at HCW
  have HR := Lib.hid hr
  have HWR := Lib.hid hwr
  have HWI := fun (i : Nat) (hi : i < wl) => Lib.hid (ints_at ws i (by rw [hwl]; exact hi))
  have HTA := fun (i : Nat) (hi : i < wl) (h1 : (ws.take i).all (okw 8) = true) (h2 : okw 8 (ws[i]'(by rw [hwl]; exact hi)) = true) => Lib.hid (take_all ws i (by rw [hwl]; exact hi) h1 h2)
  obtain ⟨hn1, hn2⟩ : (1 : Int) ≤ n ∧ (n : Int) ≤ 40 := by omega
  by_cases hwn : (ws.length : Int) ≠ wordsN n
  · rw [show fillRes n xs ws = ((0, 0, []), 7) from by unfold fillRes; rw [if_pos hwn]]
    rw [hwl] at hwn
    have hwn' : ((wl : Int) != ((wordsN n : Nat) : Int)) = true := by simpa using hwn
    generalize wordsN n = K at HCW hwn'
    clear hwn HWI HTA hwl hl hr hwr
    generalize ints (al n) = L at HLO
    generalize (al n).length = m at HLO
    generalize sd n * sd n = Q at *
    generalize sd n = k at *
    unfold layV at *
    go_enter Try.func30, Try.ntmps30
    skip
    go_wp2_with fail
    refine (HLO _).out.mono ?_
    rintro e w1 ⟨bo, bc, rfl, hr1, hx1⟩
    have HR1 := Lib.hid hr1
    have HX1 := Lib.hid (((Ext.alloc w _).trans (Ext.alloc _ _)).trans hx1)
    have HG1 := Lib.hid hx1.new
    rw [World.size_alloc] at HG1
    have HB1 := Lib.hid ((Ext.alloc _ _).trans hx1)
    have HS1 : Hid (w.heap.size + 1 < w1.heap.size) := Nat.lt_of_lt_of_le (by rw [World.size_alloc, World.size_alloc]; exact Nat.lt_succ_self _) hx1.size
    clear hr1 hx1
    go_wp2_with fail
    refine (HCW _).out.mono ?_
    rintro e w2 ⟨rfl, hx2⟩
    have HLB := Lib.hid hx2
    have HX2 := Lib.hid (HX1.out.trans ((Ext.alloc _ _).trans hx2))
    have HGZ := Lib.hid (((Ext.alloc w1 _).trans hx2).old HG1.out)
    clear hx2
    go_wp2_with ((with_reducible show wpList _ _ _ (⟨none, .store 24 _ _, _, _, _, _⟩ :: _) _ _); refine wpList_storeOwnK rfl 24 _ _ rfl (w.heap.size + 1) _ rfl rfl 24 _ HGZ.out (by kernel_rfl) (by kernel_rfl) (by kernel_rfl) w HX2.out (Nat.le_succ _) ?_; intro w3 HX3 HG3 HK3)
    refine bodyPost_ret (results_cellSlot rfl _ w3 (w.heap.size + 1) 24 _ (0, 0) _ rfl HG3.out Try.underlying24 rfl (by kernel_rfl)) rfl ?_
    exact RetMat.nil _ _ _ _ HX3
  · have hwn' : ((wl : Int) != ((wordsN n : Nat) : Int)) = false := by
      have : (wl : Int) = ((wordsN n : Nat) : Int) := by
        by_cases e : (wl : Int) = ((wordsN n : Nat) : Int)
        · exact e
        · rw [hwl] at hwn
          exact absurd e hwn
      simpa using this
    by_cases hall : ws.all (okw 8) = true
    · rw [show fillRes n xs ws = (((sd n : Int), (sd n : Int), flL (sd n) (pathN n) (fromTo ws 8 ws.length) xs), (0 : Int)) from by unfold fillRes; rw [if_neg hwn, if_pos hall]]
      have HFW := fun (V : World) (h : Row V wo (ints ws)) => Lib.hid (fromWords_any wo wl wc ws 8 V hwl hwb h)
      rw [fromRes_3 (by omega) (by have hk := wordsN_le n h2; omega) hall] at HFW
      have HCL := fun (V : World) (h : Row V ao (bools xs)) => Lib.hid (clone_any (sd n) (sd n) ao (sd n * sd n) cap xs V hl h hn0 (by omega))
      have HPA := fun (bo : Option Addr) (c : Nat) (V : World) (h : Row V bo (ints (al n))) => Lib.hid (path_any n h1 h2 bo c V h)
      have hbl : (fromTo ws 8 ws.length).length ≤ 8388608 := by rw [length_fromTo ws 8 _ (Nat.le_refl _)]; omega
      have HST0 := path_stops n h1 h2 9
      have HPL := Lib.hid (pathN_len n h2)
      rw [show (8 : Int).toNat = 8 from rfl] at HFW
      unfold RetMat
      simp only
      rw [flL_len, hl]
      unfold OwnMat at HCL
      rw [hl] at HCL
      unfold RetIter at HPA
      unfold RetSl at HFW
      simp only [length_bools] at HFW
      generalize fromTo ws 8 ws.length = bs at HFW hbl ⊢
      generalize wordsN n = K at *
      generalize ints (al n) = L at *
      generalize (al n).length = m at *
      have HQQ : Hid (∀ (p : Nat × Nat), p.1 < sd n → p.2 < sd n → posOf (sd n) p < sd n * sd n) := fun p hp1 hp2 => by
        have e1 : (p.2 + 1) * sd n ≤ sd n * sd n := Nat.mul_le_mul_right _ hp2
        rw [Nat.add_mul] at e1
        unfold posOf
        omega
      have HXL : ∀ ps, Hid ((bools (flL (sd n) ps bs xs)).length = sd n * sd n) := fun ps => by show _ = _; rw [length_bools, flL_len, hl]
      generalize hQe : sd n * sd n = Q at *
      have HQE := Lib.hid hQe
      clear hQe
      unfold layV at *
      refine (callsIn_wide (n := 10)).1 ?_
      refine callsIn_of_wp_marks Try.func30 rfl trivial ?_ rfl
      simp only [Try.ntmps30, List.size_toArray, List.length_cons, List.length_nil, Nat.reduceAdd, Nat.reduceSub, Array.replicate_succ, Array.replicate_zero, List.push_toArray, List.append_toArray, List.nil_append, List.cons_append]
      refine wpIn_wide.2 ?_
      skip
      go_wp2_with fail
      refine (HLO _).out.mono ?_
      rintro e w1 ⟨bo, bc, rfl, hr1, hx1⟩
      have HR1 := Lib.hid hr1
      have HX1 := Lib.hid (((Ext.alloc w _).trans (Ext.alloc _ _)).trans hx1)
      have HG1 := Lib.hid hx1.new
      rw [World.size_alloc] at HG1
      have HB1 := Lib.hid ((Ext.alloc _ _).trans hx1)
      have HS1 : Hid (w.heap.size + 1 < w1.heap.size) := Nat.lt_of_lt_of_le (by rw [World.size_alloc, World.size_alloc]; exact Nat.lt_succ_self _) hx1.size
      clear hr1 hx1
      go_wp2_with fail
      refine (HCW _).out.mono ?_
      rintro e w2 ⟨rfl, hx2⟩
      have HLB := Lib.hid hx2
      have HX2 := Lib.hid (HX1.out.trans ((Ext.alloc _ _).trans hx2))
      have HGZ := Lib.hid (((Ext.alloc w1 _).trans hx2).old HG1.out)
      clear hx2
      go_wp2_with fail
      go_loopw [11, 43] (fun _ ii wr => ∃ i : Nat, i ≤ wl ∧ ii = .int .i64 i ∧ wr = w2) (fun _ ii _ => wl - (intOf ii).toNat)
      case atStart => exact ⟨0, Nat.zero_le _, rfl, rfl⟩
      case round =>
        obtain ⟨i, hi, rfl, rfl⟩ := hrel
        by_cases hlt : i < wl
        · obtain ⟨aw, rfl, hcw⟩ := (HWR.out.ext HX2.out).at (HWI i hlt).out
          have hi1 : (i : Int) < (wl : Int) := by omega
          have hok := List.all_eq_true.1 hall _ (List.getElem_mem (show i < ws.length by rw [hwl]; exact hlt))
          obtain ⟨x1, x2⟩ := okw_yes hok
          have e8 : (2 : Int) ^ 8 = 256 := by decide
          have x3 : (ws[i]'(by rw [hwl]; exact hlt)) ≤ 255 := by omega
          generalize (ws[i]'(by rw [hwl]; exact hlt)) = X at hcw x1 x3
          clear hok x2 e8
          go_wp2_with fail
          exact ⟨⟨i + 1, by omega, by rw [Int.natCast_succ], trivial⟩, by simp [intOf]; omega⟩
        · obtain rfl : i = wl := by omega
          clear hlt
          go_wp2_with fail
          refine (HFW _ (HWR.out.ext HX2.out)).out.mono ?_
          rintro e w3 ⟨so, sc, rfl, hr3, hl3, hm3, -, hx3⟩
          generalize hBL : bs.length = BL at hr3 hl3 hbl ⊢
          have HBL := Lib.hid hBL
          have HRB := Lib.hid hr3
          have HX3 := Lib.hid (HX2.out.trans hx3)
          have HX3a := Lib.hid hx3
          have HB3 := Lib.hid (HB1.out.trans ((Ext.alloc w1 _).trans (HLB.out.trans hx3)))
          have HL3 := Lib.hid (HLB.out.trans hx3)
          obtain ⟨z0, z1, z2⟩ := box3 HB3.out
          have hz3 : w.heap.size < w3.heap.size := World.block_lt_of_cell? w3 ⟨w.heap.size, 0, none⟩ z0
          clear hr3 hx3 hBL
          go_wp2_with fail
          refine (HCL _ (HR.out.ext (HX3.out.trans (Ext.alloc _ _)))).out.mono ?_
          rintro e w4 ⟨s4, rfl, ho4, hx4⟩
          obtain ⟨h, oc, rfl, hhb, hhl, hoc, hom⟩ := own_ptr ho4 (by omega)
          obtain ⟨W3, hW3⟩ : ∃ W3, W3 = w3.alloc (.cells #[.slice so BL sc] 22) := ⟨_, rfl⟩
          rw [← hW3] at hhb ho4 hx4
          have hs3 : W3.heap.size = w3.heap.size + 1 := by rw [hW3, World.size_alloc]
          have hX3 : Ext w3 W3 := by rw [hW3]; exact Ext.alloc _ _
          have HBB : Hid (∀ V, Ext W3 V → V.heap[w3.heap.size]? = some (.cells #[.slice so BL sc] 22 (0, 0))) := fun V hv => by rw [hW3] at hv; exact hv.new
          have hlt1 : w1.heap.size < w3.heap.size := World.block_lt_of_cell? w3 ⟨w1.heap.size, 0, none⟩ (box3 HL3.out).1
          have HLL : Hid (∀ V, Ext W3 V → V.cell? ⟨w1.heap.size, 0, none⟩ = some (.int .i64 n) ∧ V.cell? ⟨w1.heap.size, 1, none⟩ = some (.int .i64 (sd n)) ∧ V.cell? ⟨w1.heap.size, 2, none⟩ = some (.slice bo m bc)) := fun V hv => box3 (HL3.out.trans (hX3.trans hv))
          have HZR : Hid (∀ V, Ext W3 V → V.heap[w.heap.size + 1]? = some (.cells #[.int .i64 0, .int .i64 0, .slice none 0 0] 24 (0, 0))) := fun V hv => by
            have h0 := HGZ.out
            exact (((Ext.trans (show Ext _ w3 from HX3a.out) (hX3.trans hv)).old h0))
          obtain ⟨W4, hW4⟩ : ∃ W4, W4 = (w4.alloc (.cells #[.int .i64 (sd n), .int .i64 (sd n), .slice (some ⟨h, 0, none⟩) (Q) oc] 24)).alloc (.cells #[.int .i64 0] 3) := ⟨_, rfl⟩
          have hs4 : W4.heap.size = w4.heap.size + 2 := by rw [hW4, World.size_alloc, World.size_alloc]
          have hX4 : Ext w4 W4 := by rw [hW4]; exact (Ext.alloc _ _).trans (Ext.alloc _ _)
          have hg4 : W4.heap[w4.heap.size]? = some (.cells #[.int .i64 (sd n), .int .i64 (sd n), .slice (some ⟨h, 0, none⟩) (Q) oc] 24 (0, 0)) := by rw [hW4]; exact (Ext.alloc _ _).new
          have hi4 : W4.heap[w4.heap.size + 1]? = some (.cells #[.int .i64 0] 3 (0, 0)) := by
            rw [hW4]
            have := heap_alloc_new (w4.alloc (.cells #[.int .i64 (sd n), .int .i64 (sd n), .slice (some ⟨h, 0, none⟩) (Q) oc] 24)) (.cells #[.int .i64 0] 3)
            rwa [World.size_alloc] at this
          have HW3 := Lib.hid hW3
          have HW4 := Lib.hid hW4
          obtain ⟨l0, l1, l2⟩ := HLL.out w4 hx4
          have hlt4 : w1.heap.size < w4.heap.size := World.block_lt_of_cell? w4 ⟨w1.heap.size, 0, none⟩ l0
          have HX4 := Lib.hid (hx4.trans hX4)
          have HO4 := Lib.hid (own_extN ho4 hX4)
          have HG4 := Lib.hid hg4
          have HI4 := Lib.hid hi4
          have HHH : Hid (W3.heap.size ≤ h ∧ h < w4.heap.size ∧ W4.heap.size = w4.heap.size + 2 ∧ w1.heap.size < w3.heap.size ∧ W3.heap.size = w3.heap.size + 1 ∧ w.heap.size + 1 < w1.heap.size) := ⟨hhb, hhl, hs4, hlt1, hs3, HS1.out⟩
          have HOC : Hid (Q ≤ oc ∧ oc ≤ 9223372036854775807) := ⟨hoc, hom⟩
          have HXW : Hid (Ext w W3) := HX3.out.trans hX3
          have HX34 := Lib.hid hX3
          clear hW3 hW4 hs3 hs4 hg4 hi4 hX3 hX4 hx4 ho4 hhb hhl hoc hom z0 z1 z2 hz3 hlt1
          go_wp2_with fail
          rw [← HW4.out]
          refine (HPA bo bc _ (HR1.out.ext ((Ext.alloc w1 _).trans (HL3.out.trans (Ext.trans (HX34.out) HX4.out))))).out.mono ?_
          rintro e w5 ⟨Bl, Bc, so2, cq, rfl, hcap, hb1, hb2, hb3, hx5⟩
          have HST := Lib.hid (HST0 W4.heap.size (by omega) Bl Bc bo m bc so2 cq w5 hcap hb1 hb2 hb3)
          have HX5 := Lib.hid hx5
          clear hcap hb1 hb2 hb3 hx5 l0 l1 l2 hlt4 HST0
          go_wp2_with fail
          refine (wpIn_wide (n := 10)).1 ?_
          have HHI : Hid (W4.heap.size ≤ w5.heap.size) := HX5.out.size
          refine wpIn_rangeFunc_ownH (n := 10) rfl (by omega) (gf := 81) (lb := #[.pointer (some ⟨Bl, 0, none⟩), .pointer (some ⟨Bc, 0, none⟩)]) rfl trivial (enters_of Try.func81 (by kernel_rfl) rfl)
            HST.out (fun h k => h.trans k) (fun W l o o' h1 h2 _ _ k hk1 hk2 => World.putObj_heap_other (by omega)) (Below.refl _ _) (fun _ => rfl)
            (fun pre W => (W.heap[w4.heap.size]? = some (.cells #[.int .i64 ((sd n : Nat) : Int), .int .i64 ((sd n : Nat) : Int), .slice (some ⟨h, 0, none⟩) (Q) oc] 24 (0, 0)) ∧ W.heap[w4.heap.size + 1]? = some (.cells #[.int .i64 (((vals pre).length : Nat) : Int)] 3 (0, 0))) ∧
              W.ownsRow W3.heap.size 4 1 (.slice (some ⟨h, 0, none⟩) (Q) oc) (Q) (bools (flL (sd n) (vals pre) bs xs)) ∧ Ext W3 W ∧ w5.heap.size ≤ W.heap.size)
            (fun _ _ _ => False)
            (fun s A B row hs hg hr => ?i1) (fun _ _ _ _ _ hs _ _ => hs) ⟨⟨HX5.out.old HG4.out, HX5.out.old HI4.out⟩, own_extN HO4.out HX5.out, HX4.out.trans HX5.out, Nat.le_refl _⟩
            (fun x a' W => ∃ Bx, (W.heap[Bx]? = some (.cells #[.int .i64 ((x.1.1 : Nat) : Int), .int .i64 ((x.1.2 : Nat) : Int)] 45 (0, 0)) ∧ w5.heap.size ≤ Bx) ∧
              a' = { tmps := #[.agg #[.int .i64 ((sd n : Nat) : Int), .int .i64 ((sd n : Nat) : Int), .slice ao (Q) cap], .slice wo i wc, .pointer (some ⟨w.heap.size, 0, none⟩), undef, .pointer (some ⟨w.heap.size + 1, 0, none⟩), u5, .pointer (some ⟨w1.heap.size, 0, none⟩), .int .i64 0, .int .i64 ((K : Nat) : Int), .int .i64 ((remN n : Nat) : Int), undef, u11, .pointer (some ⟨w3.heap.size, 0, none⟩), .pointer (some ⟨w4.heap.size, 0, none⟩), .pointer (some ⟨w4.heap.size + 1, 0, none⟩), .pointer (some ⟨Bx, 0, none⟩), .tuple #[.agg #[.int .i64 ((n : Nat) : Int), .int .i64 ((sd n : Nat) : Int), .slice bo m bc], .int .i64 0], .agg #[.int .i64 ((sd n : Nat) : Int), .int .i64 ((sd n : Nat) : Int), .slice ao (Q) cap], .tuple #[.agg #[.int .i64 ((n : Nat) : Int), .int .i64 ((sd n : Nat) : Int), .slice bo m bc], .int .i64 0], .agg #[.int .i64 ((n : Nat) : Int), .int .i64 ((sd n : Nat) : Int), .slice bo m bc], .int .i64 0, .int .i64 0, .bool false, undef, undef, .tuple #[.int .i64 ((K : Nat) : Int), .int .i64 ((remN n : Nat) : Int), .int .i64 0], .pointer (some ⟨w1.heap.size, 0, none⟩), .int .i64 ((n : Nat) : Int), .tuple #[.int .i64 ((K : Nat) : Int), .int .i64 ((remN n : Nat) : Int), .int .i64 0], .int .i64 ((K : Nat) : Int), .int .i64 ((remN n : Nat) : Int), .int .i64 0, .int .i64 0, .bool false, undef, undef, .slice wo i wc, .int .i64 ((i : Nat) : Int), .int .i64 ((K : Nat) : Int), .bool false, undef, .slice wo i wc, .int .i64 ((i : Nat) : Int), .int .i64 ((i : Nat) : Int), .bool false, u45, u46, u47, u48, u49, u50, u51, u52, u53, u54, .tuple #[.slice so BL sc, .int .i64 0], .slice wo i wc, .tuple #[.slice so BL sc, .int .i64 0], .slice so BL sc, .int .i64 0, .int .i64 0, .bool false, undef, undef, .agg #[.int .i64 ((sd n : Nat) : Int), .int .i64 ((sd n : Nat) : Int), .slice ao (Q) cap], .agg #[.int .i64 ((sd n : Nat) : Int), .int .i64 ((sd n : Nat) : Int), .slice (some ⟨h, 0, none⟩) (Q) oc], .agg #[.int .i64 ((n : Nat) : Int), .int .i64 ((sd n : Nat) : Int), .slice bo m bc], .func (.func 81) #[] #[.pointer (some ⟨Bl, 0, none⟩), .pointer (some ⟨Bc, 0, none⟩)], .agg #[.int .i64 ((x.1.1 : Nat) : Int), .int .i64 ((x.1.2 : Nat) : Int)], undef, undef, undef, undef, undef, undef, undef, undef, undef, undef, undef, undef, undef, undef, undef, undef, undef, undef, undef], defers := [] })
            (fun x a' s A B row hs hg hr => ?hax) ?assign ?body ?done ?stop
          case i1 =>
            obtain ⟨⟨h1, h2⟩, h3, h4, h5⟩ := hs
            exact ⟨⟨turn_heap h1 hg (fun r e => (hr r e).2), turn_heap h2 hg (fun r e => (hr r e).2)⟩, turn_own h3 hg (fun r e => (hr r e).2), turn_ext h4 hg (fun r e => (hr r e).1) (by have := HX4.out.size; have := HHI.out; omega), Nat.le_trans h5 hg.size⟩
          case hax =>
            obtain ⟨Bx, ⟨h1, h1'⟩, h2⟩ := hs
            exact ⟨Bx, ⟨turn_heap h1 hg (fun r e => (hr r e).2), h1'⟩, h2⟩
          case assign =>
            intro l pre x W K hi hK
            obtain ⟨⟨px, py⟩, hxr⟩ := x
            simp only [enc] at hK ⊢
            gi_wp2
            obtain ⟨⟨h1, h2⟩, h3, h4, h5⟩ := hi
            exact hK _ _ ((KeepsOthers.alloc _ _).from _) (mid_ext (Ext.alloc _ _) h5) ⟨⟨(Ext.alloc _ _).old h1, (Ext.alloc _ _).old h2⟩, own_extN h3 (Ext.alloc _ _), h4.trans (Ext.alloc _ _), Nat.le_trans h5 (Ext.alloc _ _).size⟩ ⟨W.heap.size, ⟨heap_alloc_new _ _, h5⟩, rfl⟩
          case body =>
            rintro l pre ⟨⟨px, py⟩, hxr⟩ a' W hl hr ⟨⟨hv1, hv2⟩, hv3, hxw, hsz⟩ ⟨Bx, ⟨hBx, hBx2⟩, rfl⟩ hlt
            have hvl : (vals pre).length < 100000 := by have := HPL.out; unfold vals; rw [List.length_map]; omega
            generalize hJ : (vals pre).length = j at hv2 hvl
            have hvj : pre.length = j := by rw [← hJ]; unfold vals; rw [List.length_map]
            have HIX := fun V => Lib.hid (index_any n (sd n) px py bo m bc V (by omega) (by have := hxr.1; simp only at this; omega) (by have := hxr.2; simp only at this; omega))
            unfold layV at HIX
            obtain ⟨zi, hzi⟩ : ∃ zi, zi = posOf (sd n) (px, py) := ⟨_, rfl⟩
            have HZI : Hid ((py : Int) * (sd n : Int) + (px : Int) = (zi : Int)) := by rw [hzi]; show _ = _; unfold posOf; rw [Int.natCast_add, Int.natCast_mul]
            have hzQ : zi < Q := by rw [hzi]; exact HQQ.out (px, py) hxr.1 hxr.2
            rw [HZI.out] at HIX
            have HZ := Lib.hid hzi
            clear hzi
            have hzI : (zi : Int) < (Q : Int) := by omega
            obtain ⟨q1, q2, q3, q4, q5, q6⟩ := HHH.out
            have q7 := HHI.out
            obtain ⟨l0, l1, l2⟩ := HLL.out W hxw
            obtain ⟨c0, c1, c2⟩ := cells3 hv1
            have ci := Boxed.cell hv2
            have cb := Boxed.cell (HBB.out W hxw)
            obtain ⟨p0, p1⟩ := cells2 hBx
            have b0 := fun V (hv : W.grownBy V (some h)) => grown_cell hv l0 (show w1.heap.size ≠ h by omega)
            have b1 := fun V (hv : W.grownBy V (some h)) => grown_cell hv l1 (show w1.heap.size ≠ h by omega)
            have b2 := fun V (hv : W.grownBy V (some h)) => grown_cell hv l2 (show w1.heap.size ≠ h by omega)
            have b3 := fun V (hv : W.grownBy V (some h)) => grown_cell hv c2 (show w4.heap.size ≠ h by omega)
            have b4 := fun V (hv : W.grownBy V (some h)) => grown_cell hv ci (show w4.heap.size + 1 ≠ h by omega)
            have b5 := fun V (hv : W.grownBy V (some h)) => grown_cell hv cb (show w3.heap.size ≠ h by omega)
            have b6 := fun V (hv : W.grownBy V (some h)) => grown_cell hv p0 (show Bx ≠ h by omega)
            have b7 := fun V (hv : W.grownBy V (some h)) => grown_cell hv p1 (show Bx ≠ h by omega)
            have HQ' := Lib.hid (And.intro q1 (And.intro q2 (And.intro q3 (And.intro q4 (And.intro q5 (And.intro q6 q7))))))
            clear l0 l1 l2 c0 c1 c2 ci cb p0 p1 q1 q2 q3 q4 q5 q6 q7
            by_cases hj : j < BL
            · have hjI : (j : Int) < (BL : Int) := by omega
              obtain ⟨aw, rfl, hcw⟩ := HRB.out.at (bools_get bs j (by rw [HBL.out]; exact hj))
              have hab : aw.block < w3.heap.size := by have := World.block_lt_of_cell? _ _ hcw; have hb : (aw.add j).block = aw.block := by { unfold Addr.add; split <;> rfl }; rwa [hb] at this
              have b8 := fun V (hv : W.grownBy V (some h)) => grown_cell hv (hxw.cell (HX34.out.cell hcw)) (show (aw.add j).block ≠ h by have hb : (aw.add j).block = aw.block := (by { unfold Addr.add; split <;> rfl }); rw [hb]; have := HQ'.out; omega)
              clear hcw
              generalize hBJ : bs.getD j false = BJ at b8
              gi_upto_region 22 with fail
              refine wpIn_round_held (S := fun V => W.grownBy V (some h)) (by kernel_rfl) (by kernel_rfl) (fun _ _ h => h) (grown_ext (Ext.drew _) _) (fun hcur => ?_)
              skip
              refine wpAnyH_take (i := 0) (v := ?_) rfl (by kernel_rfl) (by kernel_rfl) (by kernel_rfl) (fun _ _ _ h => h) (Or.inl ⟨by rfl, ?_⟩) (by assumption) ?_
              rotate_left
              · (intro w hSw; try dsimp only at hSw); go_simp; try with_reducible rfl
              simp only [List.getElem_toArray, List.getElem_cons_zero, Act.put, List.setIfInBounds_toArray, List.set_cons_zero, List.set_cons_succ]
              skip
              refine wpAnyH_take (i := 1) (v := ?_) rfl (by kernel_rfl) (by kernel_rfl) (by kernel_rfl) (fun _ _ _ h => h) (Or.inl ⟨by rfl, ?_⟩) (by assumption) ?_
              rotate_left
              · (intro w hSw; try dsimp only at hSw); go_simp; try with_reducible rfl
              simp only [List.getElem_toArray, List.getElem_cons_zero, List.getElem_cons_succ, Act.put, List.setIfInBounds_toArray, List.set_cons_zero, List.set_cons_succ]
              skip
              refine wpAnyH_take (i := 2) (v := ?_) rfl (by kernel_rfl) (by kernel_rfl) (by kernel_rfl) (fun _ _ _ h => h) (Or.inl ⟨by rfl, ?_⟩) (by assumption) ?_
              rotate_left
              · (intro w hSw; try dsimp only at hSw); go_simp; try with_reducible rfl
              simp only [List.getElem_toArray, List.getElem_cons_zero, List.getElem_cons_succ, Act.put, List.setIfInBounds_toArray, List.set_cons_zero, List.set_cons_succ]
              skip
              refine wpAnyH_take (i := 3) (v := ?_) rfl (by kernel_rfl) (by kernel_rfl) (by kernel_rfl) (fun _ _ _ h => h) (Or.inl ⟨by rfl, ?_⟩) (by assumption) ?_
              rotate_left
              · (intro w hSw; try dsimp only at hSw); go_simp; try with_reducible rfl
              simp only [List.getElem_toArray, List.getElem_cons_zero, List.getElem_cons_succ, Act.put, List.setIfInBounds_toArray, List.set_cons_zero, List.set_cons_succ]
              skip
              refine wpAnyH_take (i := 5) (v := ?_) rfl (by kernel_rfl) (by kernel_rfl) (by kernel_rfl) (fun _ _ _ h => h) (Or.inl ⟨by rfl, ?_⟩) (by assumption) ?_
              rotate_left
              · (intro w hSw; try dsimp only at hSw); go_simp; try with_reducible rfl
              simp only [List.getElem_toArray, List.getElem_cons_zero, List.getElem_cons_succ, Act.put, List.setIfInBounds_toArray, List.set_cons_zero, List.set_cons_succ]
              skip
              refine wpAnyH_take (i := 6) (v := ?_) rfl (by kernel_rfl) (by kernel_rfl) (by kernel_rfl) (fun _ _ _ h => h) (Or.inl ⟨by rfl, ?_⟩) (by assumption) ?_
              rotate_left
              · (intro w hSw; try dsimp only at hSw); go_simp; try with_reducible rfl
              simp only [List.getElem_toArray, List.getElem_cons_zero, List.getElem_cons_succ, Act.put, List.setIfInBounds_toArray, List.set_cons_zero, List.set_cons_succ]
              skip
              refine wpAnyH_take (i := 7) (v := ?_) rfl (by kernel_rfl) (by kernel_rfl) (by kernel_rfl) (fun _ _ _ h => h) (Or.inl ⟨by rfl, ?_⟩) (by assumption) ?_
              rotate_left
              · (intro w hSw; try dsimp only at hSw); go_simp; try with_reducible rfl
              simp only [List.getElem_toArray, List.getElem_cons_zero, List.getElem_cons_succ, Act.put, List.setIfInBounds_toArray, List.set_cons_zero, List.set_cons_succ]
              skip
              refine wpAnyH_take (i := 8) (v := ?_) rfl (by kernel_rfl) (by kernel_rfl) (by kernel_rfl) (fun _ _ _ h => h) (Or.inl ⟨by rfl, ?_⟩) (by assumption) ?_
              rotate_left
              · (intro w hSw; try dsimp only at hSw); go_simp; try with_reducible rfl
              simp only [List.getElem_toArray, List.getElem_cons_zero, List.getElem_cons_succ, Act.put, List.setIfInBounds_toArray, List.set_cons_zero, List.set_cons_succ]
              refine wpAnyH_ready (rs := [4]) (by kernel_rfl) (by simp) ?_
              refine AllReadyH.cons rfl (fun K hK => ?_) AllReadyH.nil
              go_simp
              go_at_call 62
              (with_reducible refine (HIX _).out.mono ?_)
              rintro e w7 ⟨rfl, hx7⟩
              have hS7 : W.grownBy w7 (some h) := grown_trans hcur (grown_ext hx7 _)
              gi_wp2
              refine hK.out _ _ hS7 (fun _ => ?_)
              clear hK K
              skip
              refine wpAnyH_take (i := 9) (v := ?_) rfl (by kernel_rfl) (by kernel_rfl) (by kernel_rfl) (fun _ _ _ h => h) (Or.inl ⟨by rfl, ?_⟩) (by assumption) ?_
              rotate_left
              · (intro w hSw; try dsimp only at hSw); go_simp; try with_reducible rfl
              simp only [List.getElem_toArray, List.getElem_cons_zero, List.getElem_cons_succ, Act.put, List.setIfInBounds_toArray, List.set_cons_zero, List.set_cons_succ]
              skip
              refine wpAnyH_take (i := 10) (v := ?_) rfl (by kernel_rfl) (by kernel_rfl) (by kernel_rfl) (fun _ _ _ h => h) (Or.inl ⟨by rfl, ?_⟩) (by assumption) ?_
              rotate_left
              · (intro w hSw; try dsimp only at hSw); go_simp; try with_reducible rfl
              simp only [List.getElem_toArray, List.getElem_cons_zero, List.getElem_cons_succ, Act.put, List.setIfInBounds_toArray, List.set_cons_zero, List.set_cons_succ]
              skip
              refine wpAnyH_take (i := 11) (v := ?_) rfl (by kernel_rfl) (by kernel_rfl) (by kernel_rfl) (fun _ _ _ h => h) (Or.inl ⟨by rfl, ?_⟩) (by assumption) ?_
              rotate_left
              · (intro w hSw; try dsimp only at hSw); go_simp; try with_reducible rfl
              simp only [List.getElem_toArray, List.getElem_cons_zero, List.getElem_cons_succ, Act.put, List.setIfInBounds_toArray, List.set_cons_zero, List.set_cons_succ]
              skip
              refine wpAnyH_take (i := 12) (v := ?_) rfl (by kernel_rfl) (by kernel_rfl) (by kernel_rfl) (fun _ _ _ h => h) (Or.inl ⟨by rfl, ?_⟩) (by assumption) ?_
              rotate_left
              · (intro w hSw; try dsimp only at hSw); go_simp; try with_reducible rfl
              simp only [List.getElem_toArray, List.getElem_cons_zero, List.getElem_cons_succ, Act.put, List.setIfInBounds_toArray, List.set_cons_zero, List.set_cons_succ]
              skip
              refine wpAnyH_take (i := 13) (v := ?_) rfl (by kernel_rfl) (by kernel_rfl) (by kernel_rfl) (fun _ _ _ h => h) (Or.inl ⟨by rfl, ?_⟩) (by assumption) ?_
              rotate_left
              · (intro w hSw; try dsimp only at hSw); go_simp; try with_reducible rfl
              simp only [List.getElem_toArray, List.getElem_cons_zero, List.getElem_cons_succ, Act.put, List.setIfInBounds_toArray, List.set_cons_zero, List.set_cons_succ]
              skip
              refine wpAnyH_take (i := 14) (v := ?_) rfl (by kernel_rfl) (by kernel_rfl) (by kernel_rfl) (fun _ _ _ h => h) (Or.inl ⟨by rfl, ?_⟩) (by assumption) ?_
              rotate_left
              · (intro w hSw; try dsimp only at hSw); go_simp; try with_reducible rfl
              simp only [List.getElem_toArray, List.getElem_cons_zero, List.getElem_cons_succ, Act.put, List.setIfInBounds_toArray, List.set_cons_zero, List.set_cons_succ]
              skip
              refine wpAnyH_take (i := 15) (v := ?_) rfl (by kernel_rfl) (by kernel_rfl) (by kernel_rfl) (fun _ _ _ h => h) (Or.inl ⟨by rfl, ?_⟩) (by assumption) ?_
              rotate_left
              · (intro w hSw; try dsimp only at hSw); go_simp; try with_reducible rfl
              simp only [List.getElem_toArray, List.getElem_cons_zero, List.getElem_cons_succ, Act.put, List.setIfInBounds_toArray, List.set_cons_zero, List.set_cons_succ]
              have hown7 := own_extN hv3 ((Ext.drew W).trans hx7)
              obtain ⟨y2, y3⟩ := own_cell hown7 zi _ (List.getElem?_eq_getElem (show zi < (bools (flL (sd n) (vals pre) bs xs)).length by rw [(HXL (vals pre)).out]; exact hzQ))
              refine wpAnyH_ready (rs := [16]) (by kernel_rfl) (by simp) ?_
              refine AllReadyH.cons rfl (fun K hK => ?_) AllReadyH.nil
              go_simp
              have hS8 : W.grownBy (w7.setCell ⟨h, zi, none⟩ (.bool BJ)) (some h) := grown_trans hS7 (grown_set w7 h zi _)
              refine hK.out _ _ hS8 (fun _ => ?_)
              clear hK K
              refine wpAnyH_done (by kernel_rfl) ?_ _
              have hown8 : (w7.setCell ⟨h, zi, none⟩ (.bool BJ)).ownsRow W3.heap.size 4 1 (.slice (some ⟨h, 0, none⟩) Q oc) Q (bools (flL (sd n) (vals (pre ++ [⟨(px, py), hxr⟩])) bs xs)) := by
                have := own_set hown7 zi (.bool BJ)
                rw [← bools_set, HZ.out] at this
                rw [show vals (pre ++ [⟨(px, py), hxr⟩]) = vals pre ++ [(px, py)] by simp [vals], flL_snoc, hJ, hBJ, ← HZ.out]
                rw [← HZ.out] at this
                exact this
              have hb8 := (hS8.block _ (Array.getElem?_eq_some_iff.1 hv2).1 (fun e => by have := Option.some.inj e; have := HQ'.out; omega)).trans hv2
              obtain ⟨w8, hw8⟩ : ∃ w8, w8 = w7.setCell ⟨h, zi, none⟩ (.bool BJ) := ⟨_, rfl⟩
              rw [← hw8] at hS8 hown8 hb8 ⊢
              have HB8 := Lib.hid hb8
              have hcnt := Boxed.cell hb8
              have hfrz := Boxed.frozen hb8
              clear hb8
              have HVJ := Lib.hid hvj
              have HOWN8 := Lib.hid hown8
              have HS8 := Lib.hid hS8
              clear hw8 y2 y3 hown7 hS7 hx7 hcur b0 b1 b2 b3 b4 b5 b6 b7 hown8 hvj
              gi_wp2
              obtain ⟨q1, q2, q3, q4, q5, q6, q7⟩ := HQ'.out
              have hVL : (vals (pre ++ [⟨(px, py), hxr⟩])).length = j + 1 := by unfold vals; rw [List.length_map, List.length_append, HVJ.out]; rfl
              refine ⟨(show KeepsFrom w5.heap.size W w8 from ⟨HS8.out.size, fun q o hq1 hq ho => (HS8.out.block q (Array.getElem?_eq_some_iff.1 hq).1 (fun e => by have := Option.some.inj e; omega)).trans hq⟩).trans ((KeepsOthers.setCell _ _ _).from _), ?_, ⟨⟨?_, ?_⟩, ?_, ?_, ?_⟩⟩
              · intro q hq1 hq2
                rw [heap_set w8 (w4.heap.size + 1) 0 _ q (by omega)]
                exact HS8.out.block q (by omega) (fun e => by have := Option.some.inj e; omega)
              · rw [heap_set w8 (w4.heap.size + 1) 0 _ w4.heap.size (by omega)]
                exact (HS8.out.block _ (Array.getElem?_eq_some_iff.1 hv1).1 (fun e => by have := Option.some.inj e; omega)).trans hv1
              · rw [hVL, Int.natCast_succ]
                exact (show Boxed w8 (w4.heap.size + 1) 3 _ from HB8.out).set _
              · exact own_off HOWN8.out (fun q hq => heap_set w8 _ 0 _ q hq) (fun e => by have e2 : h = w4.heap.size + 1 := (by simpa [Value.ownBlock] using e); omega)
              · exact (show Ext W3 w8 from ext_grown hxw HS8.out q1).set (by show W3.heap.size ≤ w4.heap.size + 1; omega) _ _
              · rw [World.size_setCell]
                exact Nat.le_trans hsz HS8.out.size
            · have hjI : ¬ (j : Int) < (BL : Int) := by omega
              have hBJ : bs.getD j false = false := by rw [List.getD_eq_getElem?_getD, List.getElem?_eq_none (by rw [HBL.out]; omega)]; rfl
              gi_upto_region 22 with fail
              refine wpIn_round_held (S := fun V => W.grownBy V (some h)) (by kernel_rfl) (by kernel_rfl) (fun _ _ h => h) (grown_ext (Ext.drew _) _) (fun hcur => ?_)
              skip
              refine wpAnyH_take (i := 0) (v := ?_) rfl (by kernel_rfl) (by kernel_rfl) (by kernel_rfl) (fun _ _ _ h => h) (Or.inl ⟨by rfl, ?_⟩) (by assumption) ?_
              rotate_left
              · (intro w hSw; try dsimp only at hSw); go_simp; try with_reducible rfl
              simp only [List.getElem_toArray, List.getElem_cons_zero, Act.put, List.setIfInBounds_toArray, List.set_cons_zero, List.set_cons_succ]
              skip
              refine wpAnyH_take (i := 1) (v := ?_) rfl (by kernel_rfl) (by kernel_rfl) (by kernel_rfl) (fun _ _ _ h => h) (Or.inl ⟨by rfl, ?_⟩) (by assumption) ?_
              rotate_left
              · (intro w hSw; try dsimp only at hSw); go_simp; try with_reducible rfl
              simp only [List.getElem_toArray, List.getElem_cons_zero, List.getElem_cons_succ, Act.put, List.setIfInBounds_toArray, List.set_cons_zero, List.set_cons_succ]
              skip
              refine wpAnyH_take (i := 2) (v := ?_) rfl (by kernel_rfl) (by kernel_rfl) (by kernel_rfl) (fun _ _ _ h => h) (Or.inl ⟨by rfl, ?_⟩) (by assumption) ?_
              rotate_left
              · (intro w hSw; try dsimp only at hSw); go_simp; try with_reducible rfl
              simp only [List.getElem_toArray, List.getElem_cons_zero, List.getElem_cons_succ, Act.put, List.setIfInBounds_toArray, List.set_cons_zero, List.set_cons_succ]
              skip
              refine wpAnyH_take (i := 3) (v := ?_) rfl (by kernel_rfl) (by kernel_rfl) (by kernel_rfl) (fun _ _ _ h => h) (Or.inl ⟨by rfl, ?_⟩) (by assumption) ?_
              rotate_left
              · (intro w hSw; try dsimp only at hSw); go_simp; try with_reducible rfl
              simp only [List.getElem_toArray, List.getElem_cons_zero, List.getElem_cons_succ, Act.put, List.setIfInBounds_toArray, List.set_cons_zero, List.set_cons_succ]
              skip
              refine wpAnyH_take (i := 5) (v := ?_) rfl (by kernel_rfl) (by kernel_rfl) (by kernel_rfl) (fun _ _ _ h => h) (Or.inl ⟨by rfl, ?_⟩) (by assumption) ?_
              rotate_left
              · (intro w hSw; try dsimp only at hSw); go_simp; try with_reducible rfl
              simp only [List.getElem_toArray, List.getElem_cons_zero, List.getElem_cons_succ, Act.put, List.setIfInBounds_toArray, List.set_cons_zero, List.set_cons_succ]
              skip
              refine wpAnyH_take (i := 6) (v := ?_) rfl (by kernel_rfl) (by kernel_rfl) (by kernel_rfl) (fun _ _ _ h => h) (Or.inl ⟨by rfl, ?_⟩) (by assumption) ?_
              rotate_left
              · (intro w hSw; try dsimp only at hSw); go_simp; try with_reducible rfl
              simp only [List.getElem_toArray, List.getElem_cons_zero, List.getElem_cons_succ, Act.put, List.setIfInBounds_toArray, List.set_cons_zero, List.set_cons_succ]
              skip
              refine wpAnyH_take (i := 7) (v := ?_) rfl (by kernel_rfl) (by kernel_rfl) (by kernel_rfl) (fun _ _ _ h => h) (Or.inl ⟨by rfl, ?_⟩) (by assumption) ?_
              rotate_left
              · (intro w hSw; try dsimp only at hSw); go_simp; try with_reducible rfl
              simp only [List.getElem_toArray, List.getElem_cons_zero, List.getElem_cons_succ, Act.put, List.setIfInBounds_toArray, List.set_cons_zero, List.set_cons_succ]
              skip
              refine wpAnyH_take (i := 8) (v := ?_) rfl (by kernel_rfl) (by kernel_rfl) (by kernel_rfl) (fun _ _ _ h => h) (Or.inl ⟨by rfl, ?_⟩) (by assumption) ?_
              rotate_left
              · (intro w hSw; try dsimp only at hSw); go_simp; try with_reducible rfl
              simp only [List.getElem_toArray, List.getElem_cons_zero, List.getElem_cons_succ, Act.put, List.setIfInBounds_toArray, List.set_cons_zero, List.set_cons_succ]
              refine wpAnyH_ready (rs := [4]) (by kernel_rfl) (by simp) ?_
              refine AllReadyH.cons rfl (fun K hK => ?_) AllReadyH.nil
              go_simp
              go_at_call 62
              (with_reducible refine (HIX _).out.mono ?_)
              rintro e w7 ⟨rfl, hx7⟩
              have hS7 : W.grownBy w7 (some h) := grown_trans hcur (grown_ext hx7 _)
              gi_wp2
              refine hK.out _ _ hS7 (fun _ => ?_)
              clear hK K
              skip
              refine wpAnyH_take (i := 9) (v := ?_) rfl (by kernel_rfl) (by kernel_rfl) (by kernel_rfl) (fun _ _ _ h => h) (Or.inl ⟨by rfl, ?_⟩) (by assumption) ?_
              rotate_left
              · (intro w hSw; try dsimp only at hSw); go_simp; try with_reducible rfl
              simp only [List.getElem_toArray, List.getElem_cons_zero, List.getElem_cons_succ, Act.put, List.setIfInBounds_toArray, List.set_cons_zero, List.set_cons_succ]
              skip
              refine wpAnyH_take (i := 10) (v := undef) rfl (by kernel_rfl) (by kernel_rfl) (by kernel_rfl) (fun _ _ _ h => h) (Or.inr ⟨by rfl, rfl⟩) (by assumption) ?_
              simp only [List.getElem_toArray, List.getElem_cons_zero, List.getElem_cons_succ, Act.put, List.setIfInBounds_toArray, List.set_cons_zero, List.set_cons_succ]
              skip
              refine wpAnyH_take (i := 11) (v := undef) rfl (by kernel_rfl) (by kernel_rfl) (by kernel_rfl) (fun _ _ _ h => h) (Or.inr ⟨by rfl, rfl⟩) (by assumption) ?_
              simp only [List.getElem_toArray, List.getElem_cons_zero, List.getElem_cons_succ, Act.put, List.setIfInBounds_toArray, List.set_cons_zero, List.set_cons_succ]
              skip
              refine wpAnyH_take (i := 12) (v := undef) rfl (by kernel_rfl) (by kernel_rfl) (by kernel_rfl) (fun _ _ _ h => h) (Or.inr ⟨by rfl, rfl⟩) (by assumption) ?_
              simp only [List.getElem_toArray, List.getElem_cons_zero, List.getElem_cons_succ, Act.put, List.setIfInBounds_toArray, List.set_cons_zero, List.set_cons_succ]
              skip
              refine wpAnyH_take (i := 13) (v := undef) rfl (by kernel_rfl) (by kernel_rfl) (by kernel_rfl) (fun _ _ _ h => h) (Or.inr ⟨by rfl, rfl⟩) (by assumption) ?_
              simp only [List.getElem_toArray, List.getElem_cons_zero, List.getElem_cons_succ, Act.put, List.setIfInBounds_toArray, List.set_cons_zero, List.set_cons_succ]
              skip
              refine wpAnyH_take (i := 14) (v := ?_) rfl (by kernel_rfl) (by kernel_rfl) (by kernel_rfl) (fun _ _ _ h => h) (Or.inl ⟨by rfl, ?_⟩) (by assumption) ?_
              rotate_left
              · (intro w hSw; try dsimp only at hSw); go_simp; try with_reducible rfl
              simp only [List.getElem_toArray, List.getElem_cons_zero, List.getElem_cons_succ, Act.put, List.setIfInBounds_toArray, List.set_cons_zero, List.set_cons_succ]
              skip
              refine wpAnyH_take (i := 15) (v := ?_) rfl (by kernel_rfl) (by kernel_rfl) (by kernel_rfl) (fun _ _ _ h => h) (Or.inl ⟨by rfl, ?_⟩) (by assumption) ?_
              rotate_left
              · (intro w hSw; try dsimp only at hSw); go_simp; try with_reducible rfl
              simp only [List.getElem_toArray, List.getElem_cons_zero, List.getElem_cons_succ, Act.put, List.setIfInBounds_toArray, List.set_cons_zero, List.set_cons_succ]
              have hown7 := own_extN hv3 ((Ext.drew W).trans hx7)
              obtain ⟨y2, y3⟩ := own_cell hown7 zi _ (List.getElem?_eq_getElem (show zi < (bools (flL (sd n) (vals pre) bs xs)).length by rw [(HXL (vals pre)).out]; exact hzQ))
              refine wpAnyH_ready (rs := [16]) (by kernel_rfl) (by simp) ?_
              refine AllReadyH.cons rfl (fun K hK => ?_) AllReadyH.nil
              go_simp
              have hS8 : W.grownBy (w7.setCell ⟨h, zi, none⟩ (.bool false)) (some h) := grown_trans hS7 (grown_set w7 h zi _)
              refine hK.out _ _ hS8 (fun _ => ?_)
              clear hK K
              refine wpAnyH_done (by kernel_rfl) ?_ _
              have hown8 : (w7.setCell ⟨h, zi, none⟩ (.bool false)).ownsRow W3.heap.size 4 1 (.slice (some ⟨h, 0, none⟩) Q oc) Q (bools (flL (sd n) (vals (pre ++ [⟨(px, py), hxr⟩])) bs xs)) := by
                have := own_set hown7 zi (.bool false)
                rw [← bools_set, HZ.out] at this
                rw [show vals (pre ++ [⟨(px, py), hxr⟩]) = vals pre ++ [(px, py)] by simp [vals], flL_snoc, hJ, hBJ, ← HZ.out]
                rw [← HZ.out] at this
                exact this
              have hb8 := (hS8.block _ (Array.getElem?_eq_some_iff.1 hv2).1 (fun e => by have := Option.some.inj e; have := HQ'.out; omega)).trans hv2
              obtain ⟨w8, hw8⟩ : ∃ w8, w8 = w7.setCell ⟨h, zi, none⟩ (.bool false) := ⟨_, rfl⟩
              rw [← hw8] at hS8 hown8 hb8 ⊢
              have HB8 := Lib.hid hb8
              have hcnt := Boxed.cell hb8
              have hfrz := Boxed.frozen hb8
              clear hb8
              have HVJ := Lib.hid hvj
              have HOWN8 := Lib.hid hown8
              have HS8 := Lib.hid hS8
              clear hw8 y2 y3 hown7 hS7 hx7 hcur b0 b1 b2 b3 b4 b5 b6 b7 hown8 hvj
              gi_wp2
              obtain ⟨q1, q2, q3, q4, q5, q6, q7⟩ := HQ'.out
              have hVL : (vals (pre ++ [⟨(px, py), hxr⟩])).length = j + 1 := by unfold vals; rw [List.length_map, List.length_append, HVJ.out]; rfl
              refine ⟨(show KeepsFrom w5.heap.size W w8 from ⟨HS8.out.size, fun q o hq1 hq ho => (HS8.out.block q (Array.getElem?_eq_some_iff.1 hq).1 (fun e => by have := Option.some.inj e; omega)).trans hq⟩).trans ((KeepsOthers.setCell _ _ _).from _), ?_, ⟨⟨?_, ?_⟩, ?_, ?_, ?_⟩⟩
              · intro q hq1 hq2
                rw [heap_set w8 (w4.heap.size + 1) 0 _ q (by omega)]
                exact HS8.out.block q (by omega) (fun e => by have := Option.some.inj e; omega)
              · rw [heap_set w8 (w4.heap.size + 1) 0 _ w4.heap.size (by omega)]
                exact (HS8.out.block _ (Array.getElem?_eq_some_iff.1 hv1).1 (fun e => by have := Option.some.inj e; omega)).trans hv1
              · rw [hVL, Int.natCast_succ]
                exact (show Boxed w8 (w4.heap.size + 1) 3 _ from HB8.out).set _
              · exact own_off HOWN8.out (fun q hq => heap_set w8 _ 0 _ q hq) (fun e => by have e2 : h = w4.heap.size + 1 := (by simpa [Value.ownBlock] using e); omega)
              · exact (show Ext W3 w8 from ext_grown hxw HS8.out q1).set (by show W3.heap.size ≤ w4.heap.size + 1; omega) _ _
              · rw [World.size_setCell]
                exact Nat.le_trans hsz HS8.out.size
          case done =>
            rintro D ys W hD hS ⟨⟨hv1, hv2⟩, hv3, hxw, hsz⟩ hK
            obtain ⟨c0, c1, c2⟩ := cells3 hv1
            go_wp2_with ((with_reducible show wpList _ _ _ (⟨none, .store 24 _ _, _, _, _, _⟩ :: _) _ _); refine wpList_storeOwnK rfl 24 _ _ rfl (w.heap.size + 1) _ rfl rfl 24 _ (HZR.out _ hxw) (by kernel_rfl) (by kernel_rfl) (by kernel_rfl) w (HXW.out.trans hxw) (Nat.le_succ _) ?_; intro wz HXz HGz HKz)
            obtain ⟨q1, q2, q3, q4, q5, q6⟩ := HHH.out
            have q7 := HHI.out
            have hKz := (HKz.out D (by omega)).trans hK
            have hgp := grownBy_putObj' wz D (.deferred none)
            have ho2 := turn_own (own_off hv3 HKz.out (fun e => by have e2 : h = w.heap.size + 1 := (by simpa [Value.ownBlock] using e); omega)) hgp (fun r e => by cases e; exact ⟨_, hKz, rfl⟩)
            have hg2 := turn_heap HGz.out hgp (fun r e => by cases e; exact ⟨_, hKz, rfl⟩)
            have hx2 := turn_ext HXz hgp (B := w5.heap.size) (fun r e => by cases e; exact hD) (by omega)
            rw [show vals ys = pathN n from hS] at ho2
            refine ⟨by simp, .inl ⟨_, _, rfl, run_takeDeferred hKz, ?_⟩⟩
            refine ⟨_, results_cellSlot rfl _ _ (w.heap.size + 1) 24 _ (0, 0) _ rfl hg2 Try.underlying24 rfl (by kernel_rfl), ?_⟩
            exact ⟨_, rfl, own_base ho2 (by omega), hx2⟩
          case stop =>
            rintro D c pre W hD _ h _
            exact h.elim
    · rw [show fillRes n xs ws = ((0, 0, []), 3) from by unfold fillRes; rw [if_neg hwn, if_neg hall]]
      have HEND : Hid (¬ (ws.take wl).all (okw 8) = true) := by
        show ¬ _
        rw [List.take_of_length_le (by omega)]
        exact hall
      generalize wordsN n = K at HCW hwn'
      clear hwn hl hr hwr hall
      generalize ints (al n) = L at HLO
      generalize (al n).length = m at HLO
      generalize sd n * sd n = Q at *
      generalize sd n = k at *
      unfold layV at *
      go_enter Try.func30, Try.ntmps30
      skip
      go_wp2_with fail
      refine (HLO _).out.mono ?_
      rintro e w1 ⟨bo, bc, rfl, hr1, hx1⟩
      have HR1 := Lib.hid hr1
      have HX1 := Lib.hid (((Ext.alloc w _).trans (Ext.alloc _ _)).trans hx1)
      have HG1 := Lib.hid hx1.new
      rw [World.size_alloc] at HG1
      have HB1 := Lib.hid ((Ext.alloc _ _).trans hx1)
      have HS1 : Hid (w.heap.size + 1 < w1.heap.size) := Nat.lt_of_lt_of_le (by rw [World.size_alloc, World.size_alloc]; exact Nat.lt_succ_self _) hx1.size
      clear hr1 hx1
      go_wp2_with fail
      refine (HCW _).out.mono ?_
      rintro e w2 ⟨rfl, hx2⟩
      have HLB := Lib.hid hx2
      have HX2 := Lib.hid (HX1.out.trans ((Ext.alloc _ _).trans hx2))
      have HGZ := Lib.hid (((Ext.alloc w1 _).trans hx2).old HG1.out)
      clear hx2
      go_wp2_with fail
      go_loopw [11, 43] (fun _ ii wr => ∃ i : Nat, i ≤ wl ∧ ii = .int .i64 i ∧ Hid ((ws.take i).all (okw 8) = true) ∧ wr = w2) (fun _ ii _ => wl - (intOf ii).toNat)
      case atStart => exact ⟨0, Nat.zero_le _, rfl, rfl, rfl⟩
      case round =>
        obtain ⟨i, hi, rfl, HT, rfl⟩ := hrel
        by_cases hlt : i < wl
        · obtain ⟨aw, rfl, hcw⟩ := (HWR.out.ext HX2.out).at (HWI i hlt).out
          have hi1 : (i : Int) < (wl : Int) := by omega
          have hta := HTA i hlt HT.out
          have hok : okw 8 (ws[i]'(by rw [hwl]; exact hlt)) = true ∨ okw 8 (ws[i]'(by rw [hwl]; exact hlt)) = false := by cases okw 8 (ws[i]'(by rw [hwl]; exact hlt)) <;> simp
          generalize (ws[i]'(by rw [hwl]; exact hlt)) = X at hcw hta hok
          rcases hok with hok | hok
          · have HT2 := hta hok
            obtain ⟨x1, x2⟩ := okw_yes hok
            have e8 : (2 : Int) ^ 8 = 256 := by decide
            have x3 : X ≤ 255 := by omega
            clear hok hta x2 e8
            go_wp2_with fail
            exact ⟨⟨i + 1, by omega, by rw [Int.natCast_succ], HT2, trivial⟩, by simp [intOf]; omega⟩
          · have hx := okw_no hok
            have e8 : (2 : Int) ^ 8 = 256 := by decide
            have hx2 : X < 0 ∨ (0 ≤ X ∧ 255 < X) := by omega
            clear hok hta hx e8
            rcases hx2 with x1 | ⟨x1, x2⟩
            · go_wp2_with ((with_reducible show wpList _ _ _ (⟨none, .store 24 _ _, _, _, _, _⟩ :: _) _ _); refine wpList_storeOwnK rfl 24 _ _ rfl (w.heap.size + 1) _ rfl rfl 24 _ HGZ.out (by kernel_rfl) (by kernel_rfl) (by kernel_rfl) w HX2.out (Nat.le_succ _) ?_; intro w3 HX3 HG3 HK3)
              refine bodyPost_ret (results_cellSlot rfl _ w3 (w.heap.size + 1) 24 _ (0, 0) _ rfl HG3.out Try.underlying24 rfl (by kernel_rfl)) rfl ?_
              exact RetMat.nil _ _ _ _ HX3
            · go_wp2_with ((with_reducible show wpList _ _ _ (⟨none, .store 24 _ _, _, _, _, _⟩ :: _) _ _); refine wpList_storeOwnK rfl 24 _ _ rfl (w.heap.size + 1) _ rfl rfl 24 _ HGZ.out (by kernel_rfl) (by kernel_rfl) (by kernel_rfl) w HX2.out (Nat.le_succ _) ?_; intro w3 HX3 HG3 HK3)
              refine bodyPost_ret (results_cellSlot rfl _ w3 (w.heap.size + 1) 24 _ (0, 0) _ rfl HG3.out Try.underlying24 rfl (by kernel_rfl)) rfl ?_
              exact RetMat.nil _ _ _ _ HX3
        · obtain rfl : i = wl := by omega
          exact absurd HT.out HEND.out

set_option maxRecDepth 20000 in
set_option maxHeartbeats 1000000 in
theorem fill_no (W H : Int) (ao : Option Addr) (n cap : Nat) (v : Value) (w : World) (hc : mcode W H n ≠ 0) :
    Calls Try.prog 30 #[.agg (matV W H ao n cap), v] w (RetMat 4 w ((0, 0, []), mcode W H n)) := by
  have HLO := fun (V : World) => Lib.hid (layoutOf_no W H ao n cap V hc)
  have hc' : (mcode W H n != 0) = true := by simpa using hc
  unfold RetNoLay at HLO
  unfold matV at *
  clear hc
  generalize mcode W H n = C at HLO hc' ⊢
  go_enter Try.func30, Try.ntmps30
  go_wp2_with fail
  refine (HLO _).out.mono ?_
  rintro e w1 ⟨rfl, hx1⟩
  have HX1 := Lib.hid (((Ext.alloc w _).trans (Ext.alloc _ _)).trans (hx1.trans (Ext.alloc w1 (.cells #[.int .i64 0, .int .i64 0, .slice none 0 0] 69))))
  have HG := Lib.hid ((hx1.trans (Ext.alloc w1 (.cells #[.int .i64 0, .int .i64 0, .slice none 0 0] 69))).new)
  rw [World.size_alloc] at HG
  clear hx1
  go_wp2_with ((with_reducible show wpList _ _ _ (⟨none, .store 24 _ _, _, _, _, _⟩ :: _) _ _); refine wpList_storeOwnK rfl 24 _ _ rfl (w.heap.size + 1) _ rfl rfl 24 _ HG.out (by kernel_rfl) (by kernel_rfl) (by kernel_rfl) w HX1.out (Nat.le_succ _) ?_; intro w3 HX3 HG3 HK3)
  refine bodyPost_ret (results_cellSlot rfl _ w3 (w.heap.size + 1) 24 _ (0, 0) _ rfl HG3.out Try.underlying24 rfl (by kernel_rfl)) rfl ?_
  exact RetMat.nil _ _ _ _ HX3

end Go.Proofs.Ytjkpdhcnklgfbaa

namespace Go.Proofs.Ytjkpdhcnklgfbaa
open Go.RowKit Go.Bs Go.Qrv Go.Lay Go.Shelf

attribute [local go_sem] Oper.semAt_some

/-- The iterator that path returns gives all data modules in order, to every loop body that keeps what it has caught. -/
theorem path_stopsP (n : Nat) (h1 : 1 ≤ n) (h2 : n ≤ 40) (nn lo : Nat) (hn : 1 ≤ nn) (Bl Bc : Nat) (ao : Option Addr) (m c : Nat) (bo : Option Addr) (cq : Nat) (w : World)
    (hC : Cap w Bl Bc n (sd n) ao m c bo (sd n * sd n) cq (cellsN n)) (hb1 : lo ≤ Bl ∧ Bl < w.heap.size) (hb2 : lo ≤ Bc ∧ Bc < w.heap.size) (hb3 : ∀ a, bo = some a → lo ≤ a.block ∧ a.block < w.heap.size) :
    SeqStopsK Fence.wide nn Try.prog 81 #[.pointer (some ⟨Bl, 0, none⟩), .pointer (some ⟨Bc, 0, none⟩)] (@enc (sd n)) (Mid lo w.heap.size) (fun ys => vals ys = pathN n) (fun ys => vals ys <+: pathN n) (pathN n).length w := by
  intro l J Jx W hW hJ hJx hY h0
  have hsb : 21 ≤ sd n ∧ sd n ≤ 177 := by unfold sd; omega
  have hCW : Cap W Bl Bc n (sd n) ao m c bo (sd n * sd n) cq (cellsN n) := hC.ext hW
  refine (iter_in nn hn l Bl Bc n (sd n) ao m c bo (sd n * sd n) cq (cellsN n) (Mid lo w.heap.size) (fun p V => ∃ ys : List (Mod (sd n)), vals ys = p ∧ J ys V) (fun p V => ∃ ys : List (Mod (sd n)), vals ys = p ∧ Jx ys V)
    (fun A B hm hc => hc.mid hm hb1 hb2 hb3) W ?_ ?_ hsb (by unfold sd; omega) rfl (fun x y hx hy => cellsN_D n x y hx hy) (fun k i j => rfl) (fun k => pre_col n k) (pre_end n) (fun k i j a1 a2 a3 => pre_pfx n k i j a1 a2 a3) hCW ⟨[], rfl, h0⟩).mono ?_
  · rintro p A B ⟨ys, hp, hj⟩ hx
    exact ⟨ys, hp, hJ ys A B none hj (Ext.grownBy hx) (fun r e => by cases e)⟩
  · rintro p x V ⟨ys, rfl, hj⟩ hpx
    have hmem : x ∈ pathN n := hpx.subset (by simp)
    have hxr := pathN_in n x hmem
    have hlen : ys.length < (pathN n).length := by
      have := hpx.length_le
      unfold vals at this
      simp at this
      omega
    refine (hY ys ⟨x, hxr⟩ V hj hlen).mono ?_
    rintro e V' (⟨rfl, h3, h4⟩ | ⟨rfl, h3⟩)
    · exact .inl ⟨rfl, ⟨ys ++ [⟨x, hxr⟩], by simp [vals], h3⟩, h4⟩
    · exact .inr ⟨rfl, ⟨ys ++ [⟨x, hxr⟩], by simp [vals], h3⟩⟩
  · rintro e V ⟨hv, ⟨ys, rfl, zs, hz, hj⟩ | ⟨p, hp, zs, rfl, hj⟩⟩
    · exact ⟨hv, .inl ⟨zs, hz, hj⟩⟩
    · exact ⟨hv, .inr ⟨zs, hp, hj⟩⟩


/-- The bits that Extract reads: those of a path's modules. -/
def exB (k : Nat) (xs : List Bool) (ps : List (Nat × Nat)) : List Bool := ps.map fun p => xs.getD (posOf k p) false
theorem exB_snoc (k : Nat) (xs : List Bool) (ps : List (Nat × Nat)) (p : Nat × Nat) : exB k xs (ps ++ [p]) = exB k xs ps ++ [xs.getD (posOf k p) false] := by simp [exB]
theorem exB_len (k : Nat) (xs : List Bool) (ps : List (Nat × Nat)) : (exB k xs ps).length = ps.length := by simp [exB]
def exL (n : Nat) (xs : List Bool) : List Bool := exB (sd n) xs ((pathN n).take (8 * wordsN n))



theorem turn_row {W W' : World} {row : Option Nat} {ao : Option Addr} {xs : List Value} (h : Row W ao xs) (hg : W.grownBy W' row) (hr : ∀ r, row = some r → ∃ o : Obj, W.heap[r]? = some o ∧ o.isCells = false) : Row W' ao xs :=
  fun i u hi => let ⟨a, ha, hc⟩ := h i u hi; ⟨a, ha, cell_kept hc hg hr⟩
theorem inBlock_exit {id : Nat} {Q : Exit → Act → World → Prop} {a : Act} {w : World} (h : Exit.inBlock id Q .normal a w) : Exit.inBlock id Q (.exit id) a w := by
  unfold Exit.inBlock at *
  simpa using h
theorem ext_keeps {W W' : World} (h : Ext W W') (B : Nat) : KeepsFrom B W W' :=
  ⟨h.size, fun k _ _ hk _ => (h.block k (Array.getElem?_eq_some_iff.1 hk).1).trans hk⟩
/-- A row of another type lies elsewhere. -/
theorem own_type {W : World} {B : Nat} {e : TypeId} {sz : Nat} {v : Value} {n : Nat} {xs : List Value} (h : W.ownsRow B e sz v n xs) {g : Nat} {cs : Array Value} {t : TypeId} {fr : Nat × Nat} (hg : W.heap[g]? = some (.cells cs t fr)) (hne : e ≠ t) : v.ownBlock ≠ some g := by
  intro e2
  rcases h.2 with ⟨hv, _⟩ | ⟨b, cap, cur, hv, hb, hgg, _⟩
  · rw [hv] at e2; cases e2
  · rw [hv] at e2
    obtain rfl : b = g := by simpa [Value.ownBlock] using e2
    rw [hg] at hgg
    cases hgg
    exact hne rfl
/-- What the region leaves as it was. -/
def Kept (g : Nat) (s : Value) (W V : World) : Prop := ∀ q u, q.block ≠ g → s.ownBlock ≠ some q.block → W.cell? q = some u → V.cell? q = some u
theorem Kept.ext {g : Nat} {s : Value} {W V V' : World} (h : Kept g s W V) (k : Ext V V') : Kept g s W V' := fun q u h1 h2 h3 => k.cell (h q u h1 h2 h3)
theorem kept_of {g : Nat} {s : Value} {W V : World} (h : Ext W V) : Kept g s W V := fun _ _ _ _ h3 => h.cell h3
theorem Kept.keep {g : Nat} {s s' : Value} {W V V' : World} (h : Kept g s W V) (k : Keep V s V' s') : Kept g s W V' := fun q u h1 h2 h3 =>
  (World.cell?_of_block (k.block q.block (World.block_lt_of_cell? _ _ (h q u h1 h2 h3)) h2)).trans (h q u h1 h2 h3)
theorem Kept.set {g : Nat} {s : Value} {W V : World} (h : Kept g s W V) (i : Nat) (v : Value) : Kept g s W (V.setCell ⟨g, i, none⟩ v) := fun q u h1 h2 h3 =>
  (World.cell?_of_block (heap_set V g i v q.block h1)).trans (h q u h1 h2 h3)



set_option maxRecDepth 100000 in
set_option maxHeartbeats 4000000 in
theorem extract_ok (n : Nat) (h1 : 1 ≤ n) (h2 : n ≤ 40) (xs : List Bool) (ao : Option Addr) (cap : Nat) (w : World) (hl : xs.length = sd n * sd n) (hr : Row w ao (bools xs)) :
    Calls Try.prog 32 #[.agg (matV (sd n) (sd n) ao (sd n * sd n) cap)] w (RetSl w (ints (wordsRes (exL n xs) 8 false).1, (wordsRes (exL n xs) 8 false).2)) := by
  have hsb : 21 ≤ sd n ∧ sd n ≤ 177 := by unfold sd; omega
  have hin : inV n := ⟨by omega, by omega⟩
  have hQb : 441 ≤ sd n * sd n ∧ sd n * sd n ≤ 31329 := ⟨Nat.mul_le_mul hsb.1 hsb.1, Nat.mul_le_mul hsb.2 hsb.2⟩
  have HLO := fun (V : World) => Lib.hid (layoutOf_ok n h1 h2 ao cap V)
  have HCW := fun (V : World) => Lib.hid (codewords_any n V)
  rw [cwRes_1 hin] at HCW
  unfold RetLay at HLO
  unfold three at HCW
  unfold matV at *
  simp only at HCW
  have HR := Lib.hid hr
  have HWD := fun (bo : Option Addr) (l c : Nat) (ys : List Bool) (V : World) (a1 : ys.length = l) (a2 : l ≤ c) (a3 : l ≤ 1048576) (a4 : Row V bo (bools ys)) => Lib.hid (words_any bo l c ys 8 false V a1 a2 a3 a4)
  have HPA := fun (bo : Option Addr) (c : Nat) (V : World) (h : Row V bo (ints (al n))) => Lib.hid (path_any n h1 h2 bo c V h)
  have HST0 := path_stopsP n h1 h2 9
  have HPL := Lib.hid (pathN_len n h2)
  have hK := wordsN_le n h2
  unfold RetIter at HPA
  have HXT := fun (i : Nat) (hi : i < sd n * sd n) => Lib.hid (bools_get xs i (by omega))
  have HEX : Hid (exL n xs = exB (sd n) xs ((pathN n).take (8 * wordsN n))) := rfl
  have HQQ : Hid (∀ (p : Nat × Nat), p.1 < sd n → p.2 < sd n → posOf (sd n) p < sd n * sd n) := fun p hp1 hp2 => by
    have e1 : (p.2 + 1) * sd n ≤ sd n * sd n := Nat.mul_le_mul_right _ hp2
    rw [Nat.add_mul] at e1
    unfold posOf
    omega
  generalize wordsN n = K at *
  generalize ints (al n) = L at *
  generalize (al n).length = m at *
  generalize hQe : sd n * sd n = Q at *
  have HQE := Lib.hid hQe
  clear hQe hr
  unfold layV at *
  refine (callsIn_wide (n := 10)).1 ?_
  refine callsIn_of_wp_marks Try.func32 rfl trivial ?_ rfl
  simp only [Try.ntmps32, List.size_toArray, List.length_cons, List.length_nil, Nat.reduceAdd, Nat.reduceSub, Array.replicate_succ, Array.replicate_zero, List.push_toArray, List.append_toArray, List.nil_append, List.cons_append]
  refine wpIn_wide.2 ?_
  go_wp2_with fail
  refine (HLO _).out.mono ?_
  rintro e w1 ⟨bo, bc, rfl, hr1, hx1⟩
  have HR1 := Lib.hid hr1
  have HX1 := Lib.hid ((Ext.alloc w _).trans hx1)
  have HB1 := Lib.hid hx1
  have HS1 : Hid (w.heap.size < w1.heap.size) := Nat.lt_of_lt_of_le (by rw [World.size_alloc]; exact Nat.lt_succ_self _) hx1.size
  clear hr1 hx1
  go_wp2_with fail
  refine (HCW _).out.mono ?_
  rintro e w2 ⟨rfl, hx2⟩
  have HLB := Lib.hid hx2
  have HX2 := Lib.hid (HX1.out.trans ((Ext.alloc _ _).trans hx2))
  have HB2 := Lib.hid (HB1.out.trans ((Ext.alloc _ _).trans hx2))
  obtain ⟨l0, l1, l2⟩ := box3 hx2
  have HS2 : Hid (w1.heap.size < w2.heap.size) := World.block_lt_of_cell? w2 ⟨w1.heap.size, 0, none⟩ l0
  clear hx2
  obtain ⟨W4, hW4⟩ : ∃ W4, W4 = (w2.alloc (.cells #[.int .i64 K] 3)).alloc (.cells #[.slice none 0 0] 22) := ⟨_, rfl⟩
  have hX24 : Ext w2 W4 := by rw [hW4]; exact (Ext.alloc _ _).trans (Ext.alloc _ _)
  have hs4 : W4.heap.size = w2.heap.size + 2 := by rw [hW4, World.size_alloc, World.size_alloc]
  have HKB : Hid (∀ V, Ext W4 V → V.heap[w2.heap.size]? = some (.cells #[.int .i64 K] 3 (0, 0))) := fun V hv => by rw [hW4] at hv; exact ((Ext.alloc _ _).trans hv).new
  have HTB : Hid (∀ V, Ext W4 V → V.heap[w2.heap.size + 1]? = some (.cells #[.slice none 0 0] 22 (0, 0))) := fun V hv => by
    rw [hW4] at hv
    have := hv.new
    rwa [World.size_alloc] at this
  have HLL : Hid (∀ V, Ext w2 V → V.cell? ⟨w1.heap.size, 0, none⟩ = some (.int .i64 n) ∧ V.cell? ⟨w1.heap.size, 1, none⟩ = some (.int .i64 (sd n)) ∧ V.cell? ⟨w1.heap.size, 2, none⟩ = some (.slice bo m bc)) := fun V hv => box3 (HLB.out.trans hv)
  have HMM : Hid (∀ V, Ext w2 V → V.cell? ⟨w.heap.size, 0, none⟩ = some (.int .i64 (sd n)) ∧ V.cell? ⟨w.heap.size, 1, none⟩ = some (.int .i64 (sd n)) ∧ V.cell? ⟨w.heap.size, 2, none⟩ = some (.slice ao Q cap)) := fun V hv => box3 (HB2.out.trans hv)
  obtain ⟨l0, l1, l2⟩ := HLL.out _ hX24
  rw [hW4] at l0 l1 l2
  have HX24 := Lib.hid hX24
  have HXW : Hid (Ext w W4) := HX2.out.trans hX24
  have HHH : Hid (w.heap.size < w1.heap.size ∧ w1.heap.size < w2.heap.size ∧ W4.heap.size = w2.heap.size + 2) := ⟨HS1.out, HS2.out, hs4⟩
  have HW4 := Lib.hid hW4
  clear hW4 hX24 hs4
  go_wp2_with fail
  rw [← HW4.out]
  refine (HPA bo bc _ (HR1.out.ext ((Ext.alloc w1 _).trans (HLB.out.trans HX24.out)))).out.mono ?_
  rintro e w5 ⟨Bl, Bc, so2, cq, rfl, hcap, hb1, hb2, hb3, hx5⟩
  have HST := Lib.hid (HST0 W4.heap.size (by omega) Bl Bc bo m bc so2 cq w5 hcap hb1 hb2 hb3)
  have HX5 := Lib.hid hx5
  clear hcap hb1 hb2 hb3 hx5 l0 l1 l2 HST0
  go_wp2_with fail
  refine (wpIn_wide (n := 10)).1 ?_
  have HHI : Hid (W4.heap.size ≤ w5.heap.size) := HX5.out.size
  refine wpIn_rangeFunc_ownH (n := 10) rfl (by omega) (gf := 81) (lb := #[.pointer (some ⟨Bl, 0, none⟩), .pointer (some ⟨Bc, 0, none⟩)]) rfl trivial (enters_of Try.func81 (by kernel_rfl) rfl)
    HST.out (fun h k => h.trans k) (fun W l o o' h1 h2 _ _ k hk1 hk2 => World.putObj_heap_other (by omega)) (Below.refl _ _) (fun _ => rfl)
    (fun pre W => (∃ v, W.heap[w2.heap.size + 1]? = some (.cells #[v] 22 (0, 0)) ∧ W.ownsRow w5.heap.size 4 1 v (vals pre).length (bools (exB (sd n) xs (vals pre)))) ∧ W.heap[w2.heap.size]? = some (.cells #[.int .i64 ((K : Nat) : Int)] 3 (0, 0)) ∧ (vals pre).length ≤ 8 * K ∧ Ext w2 W ∧ w5.heap.size ≤ W.heap.size)
    (fun c pre W => c = .exit 0 ∧ (vals pre.dropLast).length = 8 * K ∧ (∃ v, W.heap[w2.heap.size + 1]? = some (.cells #[v] 22 (0, 0)) ∧ W.ownsRow w5.heap.size 4 1 v (vals pre.dropLast).length (bools (exB (sd n) xs (vals pre.dropLast)))) ∧ Ext w2 W ∧ w5.heap.size ≤ W.heap.size)
    (fun s A B row hs hg hr => ?i1) (fun c s A B row hs hg hr => ?i2) ⟨⟨_, HTB.out _ HX5.out, World.ownsRow_nil _ _ _ _⟩, HKB.out _ HX5.out, Nat.zero_le _, HX24.out.trans HX5.out, Nat.le_refl _⟩
    (fun x a' W => ∃ Bx, (W.heap[Bx]? = some (.cells #[.int .i64 ((x.1.1 : Nat) : Int), .int .i64 ((x.1.2 : Nat) : Int)] 45 (0, 0)) ∧ w5.heap.size ≤ Bx) ∧
      a' = { tmps := #[.agg #[.int .i64 ((sd n : Nat) : Int), .int .i64 ((sd n : Nat) : Int), .slice ao Q cap], .pointer (some ⟨w.heap.size, 0, none⟩), .slice none 0 0, .int .i64 0, .pointer (some ⟨w1.heap.size, 0, none⟩), .int .i64 0, .pointer (some ⟨w2.heap.size, 0, none⟩), .int .i64 ((remN n : Nat) : Int), .pointer (some ⟨w2.heap.size + 1, 0, none⟩), .pointer (some ⟨Bx, 0, none⟩), .tuple #[.agg #[.int .i64 ((n : Nat) : Int), .int .i64 ((sd n : Nat) : Int), .slice bo m bc], .int .i64 0], .agg #[.int .i64 ((sd n : Nat) : Int), .int .i64 ((sd n : Nat) : Int), .slice ao Q cap], .tuple #[.agg #[.int .i64 ((n : Nat) : Int), .int .i64 ((sd n : Nat) : Int), .slice bo m bc], .int .i64 0], .agg #[.int .i64 ((n : Nat) : Int), .int .i64 ((sd n : Nat) : Int), .slice bo m bc], .int .i64 0, .int .i64 0, .bool false, undef, .tuple #[.int .i64 ((K : Nat) : Int), .int .i64 ((remN n : Nat) : Int), .int .i64 0], .pointer (some ⟨w1.heap.size, 0, none⟩), .int .i64 ((n : Nat) : Int), .tuple #[.int .i64 ((K : Nat) : Int), .int .i64 ((remN n : Nat) : Int), .int .i64 0], .int .i64 ((K : Nat) : Int), .int .i64 ((remN n : Nat) : Int), .int .i64 0, .int .i64 0, .bool false, undef, .agg #[.int .i64 ((n : Nat) : Int), .int .i64 ((sd n : Nat) : Int), .slice bo m bc], .func (.func 81) #[] #[.pointer (some ⟨Bl, 0, none⟩), .pointer (some ⟨Bc, 0, none⟩)], .agg #[.int .i64 ((x.1.1 : Nat) : Int), .int .i64 ((x.1.2 : Nat) : Int)], undef, undef, undef, undef, undef, undef, undef, undef, undef, undef, undef, undef, undef, undef, undef, undef, undef, undef, undef], defers := [] })
    (fun x a' s A B row hs hg hr => ?hax) ?assign ?body ?done ?stop
  case i1 =>
    obtain ⟨⟨v, h1, h2⟩, h3, h4, h5, h6⟩ := hs
    exact ⟨⟨v, turn_heap h1 hg (fun r e => (hr r e).2), turn_own h2 hg (fun r e => (hr r e).2)⟩, turn_heap h3 hg (fun r e => (hr r e).2), h4, turn_ext h5 hg (fun r e => (hr r e).1) (by have := HX24.out.size; have := HHI.out; omega), Nat.le_trans h6 hg.size⟩
  case i2 =>
    obtain ⟨rfl, h4, ⟨v, h1, h2⟩, h5, h6⟩ := hs
    exact ⟨rfl, h4, ⟨v, turn_heap h1 hg (fun r e => (hr r e).2), turn_own h2 hg (fun r e => (hr r e).2)⟩, turn_ext h5 hg (fun r e => (hr r e).1) (by have := HX24.out.size; have := HHI.out; omega), Nat.le_trans h6 hg.size⟩
  case hax =>
    obtain ⟨Bx, ⟨h1, h1'⟩, h2⟩ := hs
    exact ⟨Bx, ⟨turn_heap h1 hg (fun r e => (hr r e).2), h1'⟩, h2⟩
  case assign =>
    intro l pre x W K' hi hK'
    obtain ⟨⟨px, py⟩, hxr⟩ := x
    simp only [enc] at hK' ⊢
    gi_wp2
    obtain ⟨⟨v, h1, h2⟩, h3, h4, h5, h6⟩ := hi
    exact hK' _ _ ((KeepsOthers.alloc _ _).from _) (mid_ext (Ext.alloc _ _) h6) ⟨⟨v, (Ext.alloc _ _).old h1, h2.alloc _⟩, (Ext.alloc _ _).old h3, h4, h5.trans (Ext.alloc _ _), Nat.le_trans h6 (Ext.alloc _ _).size⟩ ⟨W.heap.size, ⟨heap_alloc_new _ _, h6⟩, rfl⟩
  case body =>
    rintro l pre ⟨⟨px, py⟩, hxr⟩ a' W hl hr ⟨⟨v, hv1, hv2⟩, hv3, hle, hxw, hsz⟩ ⟨Bx, ⟨hBx, hBx2⟩, rfl⟩ hlt
    obtain ⟨so, sc, rfl, hso1, hso2, hso3, hso4⟩ := own_row hv2
    have cb := Boxed.cell hv1
    have ck := Boxed.cell hv3
    generalize hJ : (vals pre).length = j at *
    by_cases hj : j = 8 * K
    · have hjI : ((j : Int) == 8 * (K : Int)) = true := by simp; omega
      gi_wp2
      refine ⟨KeepsFrom.refl _ _, ?_⟩
      simp only [List.dropLast_concat]
      exact ⟨trivial, hJ.trans hj, ⟨_, hv1, by rw [hJ]; exact hv2⟩, hxw, hsz⟩
    · have hjI : ((j : Int) == 8 * (K : Int)) = false := by simp; omega
      have HIX := fun V => Lib.hid (index_any n (sd n) px py bo m bc V (by omega) (by have := hxr.1; simp only at this; omega) (by have := hxr.2; simp only at this; omega))
      obtain ⟨zi, hzi⟩ : ∃ zi, zi = posOf (sd n) (px, py) := ⟨_, rfl⟩
      have HZI : Hid ((py : Int) * (sd n : Int) + (px : Int) = (zi : Int)) := by rw [hzi]; show _ = _; unfold posOf; rw [Int.natCast_add, Int.natCast_mul]
      have hzQ : zi < Q := by rw [hzi]; exact HQQ.out (px, py) hxr.1 hxr.2
      rw [HZI.out] at HIX
      unfold layV at HIX
      have HZ := Lib.hid hzi
      clear hzi
      have hzI : (zi : Int) < (Q : Int) := by omega
      obtain ⟨q1, q2, q3⟩ := HHH.out
      have q4 := HHI.out
      obtain ⟨l0, l1, l2⟩ := HLL.out W hxw
      obtain ⟨_, _, c2⟩ := HMM.out W hxw
      obtain ⟨p0, p1⟩ := cells2 hBx
      obtain ⟨ad, rfl, hcd⟩ := HR.out.at (HXT zi hzQ).out
      have hcd' := hxw.cell (HX2.out.cell hcd)
      have hdb : (ad.add zi).block < w.heap.size := World.block_lt_of_cell? _ _ hcd
      have hob : ∀ k, k < w5.heap.size → (Value.slice so j sc).ownBlock ≠ some k := fun k hk => own_below hv2 hk
      have hBn : Bx ≠ w2.heap.size + 1 := by omega
      have hBo : (Value.slice so j sc).ownBlock ≠ some Bx := own_type hv2 hBx (by decide)
      have b0 := fun V (hv : Kept (w2.heap.size + 1) (.slice so j sc) W V) => hv _ _ (show w1.heap.size ≠ _ by omega) (hob w1.heap.size (by omega)) l0
      have b1 := fun V (hv : Kept (w2.heap.size + 1) (.slice so j sc) W V) => hv _ _ (show w1.heap.size ≠ _ by omega) (hob w1.heap.size (by omega)) l1
      have b2 := fun V (hv : Kept (w2.heap.size + 1) (.slice so j sc) W V) => hv _ _ (show w1.heap.size ≠ _ by omega) (hob w1.heap.size (by omega)) l2
      have b3 := fun V (hv : Kept (w2.heap.size + 1) (.slice so j sc) W V) => hv _ _ (show w.heap.size ≠ _ by omega) (hob w.heap.size (by omega)) c2
      have b4 := fun V (hv : Kept (w2.heap.size + 1) (.slice so j sc) W V) => hv _ _ hBn hBo p0
      have b5 := fun V (hv : Kept (w2.heap.size + 1) (.slice so j sc) W V) => hv _ _ hBn hBo p1
      have b6 := fun V (hv : Kept (w2.heap.size + 1) (.slice so j sc) W V) => hv _ _ (show (ad.add zi).block ≠ _ by omega) (hob _ (by omega)) hcd'
      generalize hBJ : xs.getD zi false = BJ at b6
      clear l0 l1 l2 c2 p0 p1 hcd hcd' hdb hob hBn hBo
      gi_upto_region 11 with fail
      refine wpIn_round_held (S := fun V => Kept (w2.heap.size + 1) (.slice so j sc) W V) (by kernel_rfl) (by kernel_rfl) (fun _ _ h => h) (kept_of (Ext.drew _)) (fun hcur => ?_)
      skip
      refine wpAnyH_take (i := 1) (v := ?_) rfl (by kernel_rfl) (by kernel_rfl) (by kernel_rfl) (fun _ _ _ h => h) (Or.inl ⟨by rfl, ?_⟩) (by assumption) ?_
      rotate_left
      · (intro w hSw; try dsimp only at hSw); go_simp; try with_reducible rfl
      simp only [List.getElem_toArray, List.getElem_cons_zero, List.getElem_cons_succ, Act.put, List.setIfInBounds_toArray, List.set_cons_zero, List.set_cons_succ]
      skip
      refine wpAnyH_take (i := 2) (v := ?_) rfl (by kernel_rfl) (by kernel_rfl) (by kernel_rfl) (fun _ _ _ h => h) (Or.inl ⟨by rfl, ?_⟩) (by assumption) ?_
      rotate_left
      · (intro w hSw; try dsimp only at hSw); go_simp; try with_reducible rfl
      simp only [List.getElem_toArray, List.getElem_cons_zero, List.getElem_cons_succ, Act.put, List.setIfInBounds_toArray, List.set_cons_zero, List.set_cons_succ]
      skip
      refine wpAnyH_take (i := 3) (v := ?_) rfl (by kernel_rfl) (by kernel_rfl) (by kernel_rfl) (fun _ _ _ h => h) (Or.inl ⟨by rfl, ?_⟩) (by assumption) ?_
      rotate_left
      · (intro w hSw; try dsimp only at hSw); go_simp; try with_reducible rfl
      simp only [List.getElem_toArray, List.getElem_cons_zero, List.getElem_cons_succ, Act.put, List.setIfInBounds_toArray, List.set_cons_zero, List.set_cons_succ]
      skip
      refine wpAnyH_take (i := 4) (v := ?_) rfl (by kernel_rfl) (by kernel_rfl) (by kernel_rfl) (fun _ _ _ h => h) (Or.inl ⟨by rfl, ?_⟩) (by assumption) ?_
      rotate_left
      · (intro w hSw; try dsimp only at hSw); go_simp; try with_reducible rfl
      simp only [List.getElem_toArray, List.getElem_cons_zero, List.getElem_cons_succ, Act.put, List.setIfInBounds_toArray, List.set_cons_zero, List.set_cons_succ]
      have cbd := (Ext.drew W).cell cb
      refine wpAnyH_ready (rs := [0, 5]) (by kernel_rfl) (by simp) ?_
      refine AllReadyH.cons rfl (fun K' hK => ?_) (AllReadyH.cons rfl (fun K' hK => ?_) AllReadyH.nil)
      · go_simp
        refine hK.out _ _ hcur (fun _ => ?_)
        clear hK K'
        refine wpAnyH_ready (rs := [5]) (by kernel_rfl) (by simp) ?_
        refine AllReadyH.cons rfl (fun K' hK => ?_) AllReadyH.nil
        skip
        go_simp
        go_at_call 62
        (with_reducible refine (HIX _).out.mono ?_)
        rintro e w7 ⟨rfl, hx7⟩
        have hE7 : Ext W w7 := (Ext.drew W).trans hx7
        have hS7 : Kept (w2.heap.size + 1) (.slice so j sc) W w7 := kept_of hE7
        gi_wp2
        refine hK.out _ _ hS7 (fun _ => ?_)
        clear hK K'
        skip
        refine wpAnyH_take (i := 6) (v := ?_) rfl (by kernel_rfl) (by kernel_rfl) (by kernel_rfl) (fun _ _ _ h => h) (Or.inl ⟨by rfl, ?_⟩) (by assumption) ?_
        rotate_left
        · (intro w hSw; try dsimp only at hSw); go_simp; try with_reducible rfl
        simp only [List.getElem_toArray, List.getElem_cons_zero, List.getElem_cons_succ, Act.put, List.setIfInBounds_toArray, List.set_cons_zero, List.set_cons_succ]
        skip
        refine wpAnyH_take (i := 7) (v := ?_) rfl (by kernel_rfl) (by kernel_rfl) (by kernel_rfl) (fun _ _ _ h => h) (Or.inl ⟨by rfl, ?_⟩) (by assumption) ?_
        rotate_left
        · (intro w hSw; try dsimp only at hSw); go_simp; try with_reducible rfl
        simp only [List.getElem_toArray, List.getElem_cons_zero, List.getElem_cons_succ, Act.put, List.setIfInBounds_toArray, List.set_cons_zero, List.set_cons_succ]
        skip
        refine wpAnyH_ready (rs := [8]) (by kernel_rfl) (by simp) ?_
        refine AllReadyH.cons rfl (fun K' hK => ?_) AllReadyH.nil
        go_simp
        obtain ⟨w8, hw8⟩ : ∃ w8, w8 = w7.alloc (.cells #[.bool BJ] 4) := ⟨_, rfl⟩
        have hE8 : Ext W w8 := by rw [hw8]; exact hE7.trans (Ext.alloc _ _)
        have hR8 : Row w8 (some ⟨w7.heap.size, 0, none⟩) [.bool BJ] := by rw [hw8]; exact Row.lit w7 [.bool BJ] 4
        rw [← hw8]
        clear hw8
        refine hK.out _ _ (kept_of hE8) (fun _ => ?_)
        clear hK K'
        skip
        refine wpAnyH_law 9 (by kernel_rfl) rfl rfl (wp_app _ _ 22 rfl w5.heap.size 4 (.bool false) 1 1 Try.infoBool' rfl (by decide) Try.underlying22 _ rfl j (bools (exB (sd n) xs (vals pre))) (own_extN hv2 hE8) (some ⟨w7.heap.size, 0, none⟩) 1 1 rfl [.bool BJ] hR8 rfl (fun e => by cases e) (by simp [Value.oneCell']) (by omega) (by omega) (by have := hE8.size; omega) ?_)
        intro s9 w9 hown9 hk9
        have hS9 : Kept (w2.heap.size + 1) (.slice so j sc) W w9 := (kept_of hE8).keep hk9
        refine ⟨hS9, ?_⟩
        simp only [Act.put, List.setIfInBounds_toArray]
        have hlt2 : w2.heap.size + 1 < w5.heap.size := by omega
        have hb9 : w9.heap[w2.heap.size + 1]? = some (.cells #[.slice so j sc] 22 (0, 0)) := (hk9.block _ (Array.getElem?_eq_some_iff.1 (hE8.old hv1)).1 (own_below hv2 hlt2)).trans (hE8.old hv1)
        have cb9 := Boxed.cell hb9
        have cf9 := Boxed.frozen hb9
        obtain ⟨g9, cap9, rfl, hg9, -, -, -⟩ := own_ptr hown9 (by omega)
        have HB9 := Lib.hid hb9
        have HOWN9 := Lib.hid hown9
        have HK9 := Lib.hid hk9
        have HE8 := Lib.hid hE8
        have HS9 := Lib.hid hS9
        clear hb9 hown9 hk9 hS9 hE8 hR8 hcur hE7 hS7 hx7 b0 b1 b2 b3 b4 b5 b6
        refine wpAnyH_ready (rs := [10]) (by kernel_rfl) (by simp) ?_
        refine AllReadyH.cons rfl (fun K' hK => ?_) AllReadyH.nil
        go_simp
        refine hK.out _ _ (HS9.out.set _ _) (fun _ => ?_)
        clear hK K'
        refine wpAnyH_done (by kernel_rfl) ?_ _
        have e1 : vals (pre ++ [⟨(px, py), hxr⟩]) = vals pre ++ [(px, py)] := by simp [vals]
        refine ⟨((ext_keeps HE8.out _).trans (keep_from (own_extN hv2 HE8.out) HK9.out _)).trans ((KeepsOthers.setCell _ _ _).from _), ?_, ⟨_, (show Boxed w9 (w2.heap.size + 1) 22 _ from HB9.out).set _, ?_⟩, ?_, ?_, ?_, ?_⟩
        · intro q hq1 hq2
          rw [heap_set w9 (w2.heap.size + 1) 0 _ q (by omega)]
          exact (HK9.out.block q (by have := HE8.out.size; omega) (own_below hv2 hq2)).trans (HE8.out.block q (by omega))
        · rw [e1, exB_snoc, ← HZ.out, hBJ, List.length_append, hJ]
          have h9 := HOWN9.out
          unfold bools at h9 ⊢
          rw [List.map_append]
          exact own_off h9 (fun q hq => heap_set w9 _ 0 _ q hq) (own_below h9 hlt2)
        · rw [heap_set w9 (w2.heap.size + 1) 0 _ w2.heap.size (by omega)]
          exact (HK9.out.block _ (Array.getElem?_eq_some_iff.1 (HE8.out.old hv3)).1 (own_below hv2 (by omega))).trans (HE8.out.old hv3)
        · rw [e1, List.length_append, hJ]
          simp only [List.length_singleton]
          omega
        · have hx9 : Ext w2 w9 := Below.trans (hxw.trans HE8.out) (HK9.out.below (hxw.trans HE8.out).size (fun q hq => by have := (hv2.lt q hq).1; omega))
          exact hx9.set (by show w2.heap.size ≤ w2.heap.size + 1; omega) _ _
        · rw [World.size_setCell]
          exact Nat.le_trans (Nat.le_trans hsz HE8.out.size) HK9.out.size
      · skip
        go_simp
        go_at_call 62
        (with_reducible refine (HIX _).out.mono ?_)
        rintro e w7 ⟨rfl, hx7⟩
        have hE7 : Ext W w7 := (Ext.drew W).trans hx7
        have hS7 : Kept (w2.heap.size + 1) (.slice so j sc) W w7 := kept_of hE7
        gi_wp2
        refine hK.out _ _ hS7 (fun _ => ?_)
        clear hK K'
        skip
        refine wpAnyH_take (i := 6) (v := ?_) rfl (by kernel_rfl) (by kernel_rfl) (by kernel_rfl) (fun _ _ _ h => h) (Or.inl ⟨by rfl, ?_⟩) (by assumption) ?_
        rotate_left
        · (intro w hSw; try dsimp only at hSw); go_simp; try with_reducible rfl
        simp only [List.getElem_toArray, List.getElem_cons_zero, List.getElem_cons_succ, Act.put, List.setIfInBounds_toArray, List.set_cons_zero, List.set_cons_succ]
        skip
        refine wpAnyH_take (i := 7) (v := ?_) rfl (by kernel_rfl) (by kernel_rfl) (by kernel_rfl) (fun _ _ _ h => h) (Or.inl ⟨by rfl, ?_⟩) (by assumption) ?_
        rotate_left
        · (intro w hSw; try dsimp only at hSw); go_simp; try with_reducible rfl
        simp only [List.getElem_toArray, List.getElem_cons_zero, List.getElem_cons_succ, Act.put, List.setIfInBounds_toArray, List.set_cons_zero, List.set_cons_succ]
        refine wpAnyH_ready (rs := [0, 8]) (by kernel_rfl) (by simp) ?_
        refine AllReadyH.cons rfl (fun K' hK => ?_) (AllReadyH.cons rfl (fun K' hK => ?_) AllReadyH.nil)
        · have cb7 := hE7.cell cb
          go_simp
          refine hK.out _ _ hS7 (fun _ => ?_)
          clear hK K'
          skip
          refine wpAnyH_ready (rs := [8]) (by kernel_rfl) (by simp) ?_
          refine AllReadyH.cons rfl (fun K' hK => ?_) AllReadyH.nil
          go_simp
          obtain ⟨w8, hw8⟩ : ∃ w8, w8 = w7.alloc (.cells #[.bool BJ] 4) := ⟨_, rfl⟩
          have hE8 : Ext W w8 := by rw [hw8]; exact hE7.trans (Ext.alloc _ _)
          have hR8 : Row w8 (some ⟨w7.heap.size, 0, none⟩) [.bool BJ] := by rw [hw8]; exact Row.lit w7 [.bool BJ] 4
          rw [← hw8]
          clear hw8
          refine hK.out _ _ (kept_of hE8) (fun _ => ?_)
          clear hK K'
          skip
          refine wpAnyH_law 9 (by kernel_rfl) rfl rfl (wp_app _ _ 22 rfl w5.heap.size 4 (.bool false) 1 1 Try.infoBool' rfl (by decide) Try.underlying22 _ rfl j (bools (exB (sd n) xs (vals pre))) (own_extN hv2 hE8) (some ⟨w7.heap.size, 0, none⟩) 1 1 rfl [.bool BJ] hR8 rfl (fun e => by cases e) (by simp [Value.oneCell']) (by omega) (by omega) (by have := hE8.size; omega) ?_)
          intro s9 w9 hown9 hk9
          have hS9 : Kept (w2.heap.size + 1) (.slice so j sc) W w9 := (kept_of hE8).keep hk9
          refine ⟨hS9, ?_⟩
          simp only [Act.put, List.setIfInBounds_toArray]
          have hlt2 : w2.heap.size + 1 < w5.heap.size := by omega
          have hb9 : w9.heap[w2.heap.size + 1]? = some (.cells #[.slice so j sc] 22 (0, 0)) := (hk9.block _ (Array.getElem?_eq_some_iff.1 (hE8.old hv1)).1 (own_below hv2 hlt2)).trans (hE8.old hv1)
          have cb9 := Boxed.cell hb9
          have cf9 := Boxed.frozen hb9
          obtain ⟨g9, cap9, rfl, hg9, -, -, -⟩ := own_ptr hown9 (by omega)
          have HB9 := Lib.hid hb9
          have HOWN9 := Lib.hid hown9
          have HK9 := Lib.hid hk9
          have HE8 := Lib.hid hE8
          have HS9 := Lib.hid hS9
          clear hb9 hown9 hk9 hS9 hE8 hR8 hcur hE7 hS7 hx7 b0 b1 b2 b3 b4 b5 b6
          refine wpAnyH_ready (rs := [10]) (by kernel_rfl) (by simp) ?_
          refine AllReadyH.cons rfl (fun K' hK => ?_) AllReadyH.nil
          go_simp
          refine hK.out _ _ (HS9.out.set _ _) (fun _ => ?_)
          clear hK K'
          refine wpAnyH_done (by kernel_rfl) ?_ _
          have e1 : vals (pre ++ [⟨(px, py), hxr⟩]) = vals pre ++ [(px, py)] := by simp [vals]
          refine ⟨((ext_keeps HE8.out _).trans (keep_from (own_extN hv2 HE8.out) HK9.out _)).trans ((KeepsOthers.setCell _ _ _).from _), ?_, ⟨_, (show Boxed w9 (w2.heap.size + 1) 22 _ from HB9.out).set _, ?_⟩, ?_, ?_, ?_, ?_⟩
          · intro q hq1 hq2
            rw [heap_set w9 (w2.heap.size + 1) 0 _ q (by omega)]
            exact (HK9.out.block q (by have := HE8.out.size; omega) (own_below hv2 hq2)).trans (HE8.out.block q (by omega))
          · rw [e1, exB_snoc, ← HZ.out, hBJ, List.length_append, hJ]
            have h9 := HOWN9.out
            unfold bools at h9 ⊢
            rw [List.map_append]
            exact own_off h9 (fun q hq => heap_set w9 _ 0 _ q hq) (own_below h9 hlt2)
          · rw [heap_set w9 (w2.heap.size + 1) 0 _ w2.heap.size (by omega)]
            exact (HK9.out.block _ (Array.getElem?_eq_some_iff.1 (HE8.out.old hv3)).1 (own_below hv2 (by omega))).trans (HE8.out.old hv3)
          · rw [e1, List.length_append, hJ]
            simp only [List.length_singleton]
            omega
          · have hx9 : Ext w2 w9 := Below.trans (hxw.trans HE8.out) (HK9.out.below (hxw.trans HE8.out).size (fun q hq => by have := (hv2.lt q hq).1; omega))
            exact hx9.set (by show w2.heap.size ≤ w2.heap.size + 1; omega) _ _
          · rw [World.size_setCell]
            exact Nat.le_trans (Nat.le_trans hsz HE8.out.size) HK9.out.size
        · go_simp
          obtain ⟨w8, hw8⟩ : ∃ w8, w8 = w7.alloc (.cells #[.bool BJ] 4) := ⟨_, rfl⟩
          have hE8 : Ext W w8 := by rw [hw8]; exact hE7.trans (Ext.alloc _ _)
          have hR8 : Row w8 (some ⟨w7.heap.size, 0, none⟩) [.bool BJ] := by rw [hw8]; exact Row.lit w7 [.bool BJ] 4
          rw [← hw8]
          clear hw8
          refine hK.out _ _ (kept_of hE8) (fun _ => ?_)
          clear hK K'
          refine wpAnyH_ready (rs := [0]) (by kernel_rfl) (by simp) ?_
          refine AllReadyH.cons rfl (fun K' hK => ?_) AllReadyH.nil
          have cb7 := hE8.cell cb
          go_simp
          refine hK.out _ _ (kept_of hE8) (fun _ => ?_)
          clear hK K'
          skip
          refine wpAnyH_law 9 (by kernel_rfl) rfl rfl (wp_app _ _ 22 rfl w5.heap.size 4 (.bool false) 1 1 Try.infoBool' rfl (by decide) Try.underlying22 _ rfl j (bools (exB (sd n) xs (vals pre))) (own_extN hv2 hE8) (some ⟨w7.heap.size, 0, none⟩) 1 1 rfl [.bool BJ] hR8 rfl (fun e => by cases e) (by simp [Value.oneCell']) (by omega) (by omega) (by have := hE8.size; omega) ?_)
          intro s9 w9 hown9 hk9
          have hS9 : Kept (w2.heap.size + 1) (.slice so j sc) W w9 := (kept_of hE8).keep hk9
          refine ⟨hS9, ?_⟩
          simp only [Act.put, List.setIfInBounds_toArray]
          have hlt2 : w2.heap.size + 1 < w5.heap.size := by omega
          have hb9 : w9.heap[w2.heap.size + 1]? = some (.cells #[.slice so j sc] 22 (0, 0)) := (hk9.block _ (Array.getElem?_eq_some_iff.1 (hE8.old hv1)).1 (own_below hv2 hlt2)).trans (hE8.old hv1)
          have cb9 := Boxed.cell hb9
          have cf9 := Boxed.frozen hb9
          obtain ⟨g9, cap9, rfl, hg9, -, -, -⟩ := own_ptr hown9 (by omega)
          have HB9 := Lib.hid hb9
          have HOWN9 := Lib.hid hown9
          have HK9 := Lib.hid hk9
          have HE8 := Lib.hid hE8
          have HS9 := Lib.hid hS9
          clear hb9 hown9 hk9 hS9 hE8 hR8 hcur hE7 hS7 hx7 b0 b1 b2 b3 b4 b5 b6
          refine wpAnyH_ready (rs := [10]) (by kernel_rfl) (by simp) ?_
          refine AllReadyH.cons rfl (fun K' hK => ?_) AllReadyH.nil
          go_simp
          refine hK.out _ _ (HS9.out.set _ _) (fun _ => ?_)
          clear hK K'
          refine wpAnyH_done (by kernel_rfl) ?_ _
          have e1 : vals (pre ++ [⟨(px, py), hxr⟩]) = vals pre ++ [(px, py)] := by simp [vals]
          refine ⟨((ext_keeps HE8.out _).trans (keep_from (own_extN hv2 HE8.out) HK9.out _)).trans ((KeepsOthers.setCell _ _ _).from _), ?_, ⟨_, (show Boxed w9 (w2.heap.size + 1) 22 _ from HB9.out).set _, ?_⟩, ?_, ?_, ?_, ?_⟩
          · intro q hq1 hq2
            rw [heap_set w9 (w2.heap.size + 1) 0 _ q (by omega)]
            exact (HK9.out.block q (by have := HE8.out.size; omega) (own_below hv2 hq2)).trans (HE8.out.block q (by omega))
          · rw [e1, exB_snoc, ← HZ.out, hBJ, List.length_append, hJ]
            have h9 := HOWN9.out
            unfold bools at h9 ⊢
            rw [List.map_append]
            exact own_off h9 (fun q hq => heap_set w9 _ 0 _ q hq) (own_below h9 hlt2)
          · rw [heap_set w9 (w2.heap.size + 1) 0 _ w2.heap.size (by omega)]
            exact (HK9.out.block _ (Array.getElem?_eq_some_iff.1 (HE8.out.old hv3)).1 (own_below hv2 (by omega))).trans (HE8.out.old hv3)
          · rw [e1, List.length_append, hJ]
            simp only [List.length_singleton]
            omega
          · have hx9 : Ext w2 w9 := Below.trans (hxw.trans HE8.out) (HK9.out.below (hxw.trans HE8.out).size (fun q hq => by have := (hv2.lt q hq).1; omega))
            exact hx9.set (by show w2.heap.size ≤ w2.heap.size + 1; omega) _ _
          · rw [World.size_setCell]
            exact Nat.le_trans (Nat.le_trans hsz HE8.out.size) HK9.out.size
  case done =>
    rintro D ys W hD hS ⟨⟨v, hv1, hv2⟩, hv3, hle, hxw, hsz⟩ hK'
    have hEX : exL n xs = exB (sd n) xs (vals ys) := by rw [HEX.out, ← (show vals ys = pathN n from hS), List.take_of_length_le hle]
    have HEX2 := Lib.hid hEX
    clear hS hEX
    skip
    obtain ⟨so, sc, rfl, hso1, hso2, hso3, hso4⟩ := own_row hv2
    have cb := Boxed.cell hv1
    go_wp2_with fail
    have hw := (HWD so _ sc _ _ (exB_len _ _ _) hso1 (by omega) hso4).out
    rw [← HEX2.out] at hw
    refine hw.mono ?_
    rintro e wz ⟨zo, zc, rfl, hrz, hlz, hmz, hoz, hxz⟩
    go_wp2_with fail
    have hKz := hxz.old hK'
    have hgp := grownBy_putObj' wz D (.deferred none)
    have q4 := HHI.out
    have q5 := HXW.out.size
    refine ⟨by simp, .inl ⟨_, _, rfl, run_takeDeferred hKz, ?_⟩⟩
    exact ⟨_, results_tmp2 rfl _ _ _, zo, zc, rfl, turn_row hrz hgp (fun r e => by cases e; exact ⟨_, hKz, rfl⟩), hlz, hmz, hoz, turn_ext (B := w5.heap.size) ((HX2.out.trans hxw).trans hxz) hgp (fun r e => by cases e; exact hD) (by omega)⟩
  case stop =>
    rintro D c pre W hD hS ⟨rfl, hle, ⟨v, hv1, hv2⟩, hxw, hsz⟩ hK'
    have hpx : vals pre.dropLast <+: pathN n := List.IsPrefix.trans ((List.dropLast_prefix pre).map Subtype.val) hS
    have hEX : exL n xs = exB (sd n) xs (vals pre.dropLast) := by rw [HEX.out, ← hle, ← List.prefix_iff_eq_take.1 hpx]
    have HEX2 := Lib.hid hEX
    clear hS hpx hEX
    generalize pre.dropLast = ys at *
    have hle2 := Nat.le_of_eq hle
    clear hle
    with_reducible refine wpIn_exit ?_
    with_reducible refine inBlock_exit ?_
    skip
    obtain ⟨so, sc, rfl, hso1, hso2, hso3, hso4⟩ := own_row hv2
    have cb := Boxed.cell hv1
    go_wp2_with fail
    have hw := (HWD so _ sc _ _ (exB_len _ _ _) hso1 (by omega) hso4).out
    rw [← HEX2.out] at hw
    refine hw.mono ?_
    rintro e wz ⟨zo, zc, rfl, hrz, hlz, hmz, hoz, hxz⟩
    go_wp2_with fail
    have hKz := hxz.old hK'
    have hgp := grownBy_putObj' wz D (.deferred none)
    have q4 := HHI.out
    have q5 := HXW.out.size
    refine ⟨by simp, .inl ⟨_, _, rfl, run_takeDeferred hKz, ?_⟩⟩
    exact ⟨_, results_tmp2 rfl _ _ _, zo, zc, rfl, turn_row hrz hgp (fun r e => by cases e; exact ⟨_, hKz, rfl⟩), hlz, hmz, hoz, turn_ext (B := w5.heap.size) ((HX2.out.trans hxw).trans hxz) hgp (fun r e => by cases e; exact hD) (by omega)⟩

set_option maxRecDepth 20000 in
set_option maxHeartbeats 1000000 in
theorem extract_no (W H : Int) (ao : Option Addr) (n cap : Nat) (w : World) (hc : mcode W H n ≠ 0) :
    Calls Try.prog 32 #[.agg (matV W H ao n cap)] w (RetSl w ([], mcode W H n)) := by
  have HLO := fun (V : World) => Lib.hid (layoutOf_no W H ao n cap V hc)
  have hc' : (mcode W H n != 0) = true := by simpa using hc
  unfold RetNoLay at HLO
  unfold matV at *
  clear hc
  generalize mcode W H n = C at HLO hc' ⊢
  go_enter Try.func32, Try.ntmps32
  go_wp2_with fail
  refine (HLO _).out.mono ?_
  rintro e w1 ⟨rfl, hx1⟩
  have HX1 := Lib.hid ((Ext.alloc w _).trans (hx1.trans (Ext.alloc w1 (.cells #[.int .i64 0, .int .i64 0, .slice none 0 0] 69))))
  clear hx1
  go_wp2_with fail
  go_ret2
  exact RetSl.nil _ _ _ HX1.out

end Go.Proofs.Ytjkpdhcnklgfbaa
