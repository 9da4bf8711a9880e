/-
  For every input BitsInverse returns true, and the argument reads afterwards as it read before (Rows.BitsInverseSaid).
  No condition.
-/
import Derived.Test.YtkkfldnkenbplaaLawBase
import Derived.Test.YtkkfldnkenbplaaBitsLaws
import Derived.Deep.RegionWith
namespace Go.Proofs.Ytkkfldnkenbplaa
open Go.RowKit Go.Bs Go.ChangeShapes Go.WideShapes Go.ChangeAt Go.Joins

/-- The cells of a slice of pairs of ints. -/
def Row2 (w : World) (ao : Option Addr) (l : List (Int × Int)) : Prop :=
  ∀ (i : Nat) (p : Int × Int), l[i]? = some p → ∃ b off, ao = some ⟨b, off, none⟩ ∧ w.cell? ⟨b, off + i * 2, none⟩ = some (.int .i64 p.1) ∧ w.cell? ⟨b, off + i * 2 + 1, none⟩ = some (.int .i64 p.2)
theorem Row2.ext {w w' : World} {ao : Option Addr} {l : List (Int × Int)} (h : Row2 w ao l) (hx : Ext w w') : Row2 w' ao l := by
  intro i p hi
  obtain ⟨b, off, ha, h1, h2⟩ := h i p hi
  exact ⟨b, off, ha, hx.cell h1, hx.cell h2⟩

theorem view_items {H : Type} {enc : TypeId × Value → H} {P : Program} {w : World} {base : Nat} {held : Bool} {t e ti : TypeId} {f0 f1 : Field} {fuel : Nat} {v : Value} {x : DataW H × List MemPlace}
    (ht : P.underlying t = some (.slice e)) (he : P.underlying e = some (.struct #[f0, f1])) (hi : P.underlying ti = some (.int .i64)) (hc : P.cellsOf e = 2) (hci : P.cellsOf ti = 1)
    (h0 : f0.type = ti) (h1 : f1.type = ti) (o0 : f0.offset = 0) (o1 : f1.offset = 1)
    (h : DataW.trod enc P w base (fun _ => true) held fuel t [v] = some x) :
    ∃ l : List (Int × Int), ∃ ao len cap, v = .slice ao len cap ∧ l.length = len ∧ len ≤ cap ∧ cap ≤ 9223372036854775807 ∧ Row2 w ao l ∧ ∀ p ∈ l, (Lit.int .i64 p.1).wf = true ∧ (Lit.int .i64 p.2).wf = true := by
  rcases Deep.open_slice ht h with ⟨hcs, _⟩ | ⟨a, len, cap, m, n, D, Pl, hcs, _, hl, hm, hmm, _, hx⟩
  · simp at hcs
    exact ⟨[], none, 0, 0, hcs, rfl, Nat.le_refl _, by decide, fun i p hi => by simp at hi, fun p hp => by cases hp⟩
  · simp at hcs
    simp only [if_true] at hmm
    subst hmm
    have each : ∀ i, i < m → ∃ p : Int × Int, w.cell? (a.add (i * 2)) = some (.int .i64 p.1) ∧ w.cell? ((a.add (i * 2)).add 1) = some (.int .i64 p.2) ∧ (Lit.int .i64 p.1).wf = true ∧ (Lit.int .i64 p.2).wf = true := by
      intro i hi'
      obtain ⟨cs', h2, h3⟩ := hx i hi'
      rw [hc] at h2
      obtain ⟨y0, y1, n', _, hlen, h4, h5⟩ := ChangeShapes.trod_struct2 he h3
      rw [hc] at hlen
      obtain ⟨_, _, hcell⟩ := World.cells?_some h2
      match cs', hlen with
      | [c0, c1], _ =>
        rw [h0, o0, hci] at h4
        rw [h1, o1, hci] at h5
        obtain ⟨x0, e0, _, w0⟩ := DataW.trod_int hi h4
        obtain ⟨x1, e1, _, w1⟩ := DataW.trod_int hi h5
        simp at e0 e1
        subst e0 e1
        exact ⟨(x0, x1), by have := hcell 0 (by decide); simpa [Addr.add] using this, by have := hcell 1 (by decide); simpa using this, w0, w1⟩
    obtain ⟨f, hf⟩ := Deep.choose_lt each
    refine ⟨(List.range len).map f, some a, len, m, hcs, by simp, hl, by unfold maxLen at hm; omega, ?_, ?_⟩
    · intro i p hp
      have hi' : i < len := by have := (List.getElem?_eq_some_iff.1 hp).1; simpa using this
      simp [hi'] at hp
      subst hp
      obtain ⟨b, off, spot⟩ := a
      have hspot : spot = none := by
        have := World.cell?_spot (hf 0 (by omega)).1
        simpa [Addr.add] using this
      subst hspot
      have g1 := (hf i (by omega)).1
      have g2 := (hf i (by omega)).2.1
      rw [add_add] at g2
      rw [Addr.add_lit] at g1 g2
      exact ⟨b, off, rfl, g1, g2⟩
    · intro p hp
      obtain ⟨i, hi', rfl⟩ := List.mem_map.1 hp
      have := List.mem_range.1 hi'
      exact (hf i (by omega)).2.2

def okn (n : Int) : Bool := decide (0 ≤ n) && decide (n ≤ 62)
def itemBits (p : Int × Int) : List Bool := if okn p.2 then lowBits p.1 p.2.toNat else []
def allBits (l : List (Int × Int)) : List Bool := l.flatMap itemBits
theorem itemBits_len (p : Int × Int) : (itemBits p).length ≤ 62 := by
  unfold itemBits
  split
  · rename_i h; simp [okn] at h; rw [length_lowBits]; omega
  · simp
theorem allBits_take (l : List (Int × Int)) (k : Nat) (h : k < l.length) : allBits (l.take (k + 1)) = allBits (l.take k) ++ itemBits l[k] := by
  unfold allBits; rw [List.take_succ_eq_append_getElem h, List.flatMap_append]; simp
theorem allBits_drop (l : List (Int × Int)) (k : Nat) (h : k < l.length) : allBits (l.drop k) = itemBits l[k] ++ allBits (l.drop (k + 1)) := by
  unfold allBits; rw [List.drop_eq_getElem_cons h, List.flatMap_cons]
theorem allBits_len (l : List (Int × Int)) : (allBits l).length ≤ 62 * l.length := by
  induction l with
  | nil => simp [allBits]
  | cons p l ih =>
    have := itemBits_len p
    simp only [allBits, List.flatMap_cons, List.length_append, List.length_cons] at *
    omega
theorem okn_cases (n : Int) : (okn n = true ∧ 0 ≤ n ∧ n ≤ 62) ∨ (okn n = false ∧ (n < 0 ∨ 62 < n)) := by
  by_cases h : 0 ≤ n ∧ n ≤ 62
  · left; exact ⟨by simp [okn, h.1, h.2], h.1, h.2⟩
  · right; exact ⟨by unfold okn; rw [Bool.and_eq_false_iff]; simp; omega, by omega⟩
theorem appRes_in {xs : List Bool} {v n : Int} (h : 0 ≤ n ∧ n ≤ 62) (hl : xs.length ≤ 100000) : appRes xs v n = (xs ++ itemBits (v, n), 0) := by
  rw [appRes_3 (by omega) (by omega)]
  unfold itemBits
  rw [if_pos (by simp [okn, h.1, h.2])]
theorem take_front (v : Int) (q : Nat) (rest : List Bool) (h : q ≤ 62) : takeRes (lowBits v q ++ rest) 0 q = (v % 2 ^ q, 0) := by
  rw [takeRes_ok h (by rw [List.length_append, length_lowBits]; omega), List.take_append_of_le_length (by rw [length_lowBits]; exact Nat.le_refl _), List.take_of_length_le (by rw [length_lowBits]; exact Nat.le_refl _), num_lowBits]

theorem Rd.weaken {w : World} {B B' g : Nat} {xs : List Bool} (h : Rd w B g xs) (hB : B' ≤ B) : Rd w B' g xs := by
  obtain ⟨ao, cap, h1, h2, h3, h4, h5⟩ := h
  exact ⟨ao, cap, h1, h2, h3, h4, fun a ha => ⟨Nat.le_trans hB (h5 a ha).1, (h5 a ha).2⟩⟩

set_option maxRecDepth 20000 in
set_option maxHeartbeats 2000000 in
theorem bitsInverse_walk (ao : Option Addr) (len cap : Nat) (l : List (Int × Int)) (w : World) (hl : l.length = len) (_ : len ≤ cap) (_ : cap ≤ 9223372036854775807) (hr : Row2 w ao l) :
    Calls Try.prog 6 #[.slice ao len cap] w fun e w' => e = .returned (.bool true) ∧ Ext w w' := by
  have HL := Lib.hid hl
  clear hl
  go_enter Try.func6, Try.ntmps6
  by_cases hbig : 100 < len
  · go_wp2_with fail
    refine (alive_any _).mono ?_
    rintro e w1 ⟨rfl, hx⟩
    go_wp2_with fail
    go_ret
    exact ⟨rfl, hx⟩
  · have hs : len ≤ 100 := by omega
    clear hbig
    have hAB : ∀ k, (allBits (l.take k)).length ≤ 6200 := by
      intro k; have := allBits_len (l.take k); have := List.length_take_le' k l; have := HL.out; omega
    have HAB := Lib.hid hAB
    clear hAB
    go_wp2_with fail
    go_loopw [2, 3, 4, 5, 6, 20] (fun _ s _ _ _ i wr => ∃ (k : Nat) (bo : Option Addr) (bl bc : Nat), k ≤ len ∧ i = .int .i64 k ∧ s = .slice bo bl bc ∧ Hid ((allBits (l.take k)).length = bl) ∧ bl ≤ bc ∧ bc ≤ 9223372036854775807 ∧ (bo = none → bc = 0) ∧ Row wr bo (bools (allBits (l.take k))) ∧ Ext w wr)
       (fun _ _ _ _ _ i _ => len - (intOf i).toNat)
    case atStart => exact ⟨0, none, 0, 0, Nat.zero_le _, rfl, rfl, rfl, Nat.le_refl _, by decide, fun _ => rfl, Row.nil _ _, Ext.refl _⟩
    case round =>
      obtain ⟨k, bo, bl, bc, hk, rfl, rfl, HB, hbc, hbm, hbn, hrow, hext⟩ := hrel
      have hbl : bl ≤ 6200 := by have := HAB.out k; have := HB.out; omega
      by_cases hlt : k < len
      · have hlt' : k < l.length := by rw [HL.out]; exact hlt
        obtain ⟨b, off, rfl, hc0, hc1⟩ := (hr.ext hext) k l[k] (List.getElem?_eq_getElem hlt')
        have HT := Lib.hid (allBits_take l k hlt')
        have hlen1 := HAB.out (k + 1)
        obtain ⟨p, hp⟩ : ∃ p, p = l[k] := ⟨_, rfl⟩
        rw [← hp] at hc0 hc1 HT
        clear hp
        obtain ⟨v, n⟩ := p
        simp only at hc0 hc1
        rcases okn_cases n with ⟨ho, hn1, hn2⟩ | ⟨ho, hno⟩
        · have HA := Lib.hid (appRes_in (xs := allBits (l.take k)) (v := v) (n := n) ⟨hn1, hn2⟩ (by have := HB.out; omega))
          clear ho
          go_wp2_with fail
          go_region_with (go_at_call 13; refine (append_any _ _ _ (allBits (l.take k)) _ _ _ HB.out (by omega) (hrow.ext (Ext.drew _))).mono ?_; rw [HA.out, ← HT.out]; intro e w3 hret3; obtain ⟨b3, c3, rfl, h3, h31, h32, h33, hx3⟩ := hret3.bools; clear hret3)
          all_goals
            have hx3' := (Ext.drew wr).trans hx3
            have hd1 := hx3'.cell hc1
            have HLL : Hid ((allBits (l.take (k + 1))).length = (allBits (l.take (k + 1))).length) := rfl
            have hle1 : decide (0 ≤ n) = true := by simp; omega
            have hle2 : decide (n ≤ 62) = true := by simp; omega
            clear hx3 hc0 hc1 hrow
            go_wp2_with fail
            go_roundw
            case rel => exact ⟨k + 1, b3, _, c3, by omega, by go_num, rfl, HLL, h31, h32, h33, h3, hext.trans hx3'⟩
            case measure => simp [intOf]; omega
        · have HA := Lib.hid (appRes_1 (xs := allBits (l.take k)) (v := v) hno)
          have HK : Hid (allBits (l.take (k + 1)) = allBits (l.take k)) := by
            show _ = _
            rw [HT.out]; unfold itemBits; rw [ho]; simp
          clear ho
          go_wp2_with fail
          go_region_with (go_at_call 13; refine (append_any _ _ _ (allBits (l.take k)) _ _ _ HB.out (by omega) (hrow.ext (Ext.drew _))).mono ?_; rw [HA.out]; intro e w3 hret3; obtain ⟨b3, c3, rfl, h3, h31, h32, h33, hx3⟩ := hret3.bools; clear hret3)
          all_goals
            have hx3' := (Ext.drew wr).trans hx3
            have hd1 := hx3'.cell hc1
            have hrow3 := hrow.ext hx3'
            clear hx3 hc0 hc1 hrow h3
            rcases hno with h | h
            all_goals
              go_wp2_with fail
              go_roundw
              case rel => exact ⟨k + 1, bo, bl, bc, by omega, by go_num, rfl, by rw [HK.out]; exact HB, hbc, hbm, hbn, by rw [HK.out]; exact hrow3, hext.trans hx3'⟩
              case measure => simp [intOf]; omega
      · have HK : Hid (allBits (l.take k) = allBits l) := by show _ = _; rw [List.take_of_length_le (by rw [HL.out]; omega)]
        rw [HK.out] at HB hrow
        clear HAB
        go_wp2_with fail
        refine (newReader_any _ _ _ (allBits l) _ HB.out (by omega) hbn hrow).mono ?_
        rintro e w3 ⟨g, rfl, hrd, hg, hx3⟩
        clear hrow
        have hext3 := hext.trans hx3
        have hgz : w.heap.size ≤ g := Nat.le_trans hext.size hg
        go_wp2_with fail
        go_loopw [2, 8, 9, 10, 11, 63] (fun _ _ _ _ _ i wr => ∃ k : Nat, k ≤ len ∧ i = .int .i64 k ∧ Rd wr w.heap.size g (allBits (l.drop k)) ∧ Ext w wr)
           (fun _ _ _ _ _ i _ => len - (intOf i).toNat)
        case atStart => exact ⟨0, Nat.zero_le _, rfl, hrd.weaken hext.size, hext3⟩
        case round =>
          clear hrd hext3 hext hx3 hg
          obtain ⟨k2, hk2, rfl, hrd, hext⟩ := hrel
          by_cases hlt2 : k2 < len
          · have hlt' : k2 < l.length := by rw [HL.out]; exact hlt2
            obtain ⟨b, off, rfl, hc0, hc1⟩ := (hr.ext hext) k2 l[k2] (List.getElem?_eq_getElem hlt')
            have hdr := allBits_drop l k2 hlt'
            obtain ⟨p, hp⟩ : ∃ p, p = l[k2] := ⟨_, rfl⟩
            rw [← hp] at hc0 hc1 hdr
            have HP := Lib.hid hp
            clear hp
            obtain ⟨v, n⟩ := p
            simp only at hc0 hc1
            rcases okn_cases n with ⟨ho, hn1, hn2⟩ | ⟨ho, hno⟩
            · obtain ⟨q, rfl⟩ := Int.eq_ofNat_of_zero_le hn1
              have hq : q ≤ 62 := by omega
              unfold itemBits at hdr
              rw [ho, if_pos rfl] at hdr
              simp only [Int.toNat_natCast] at hdr
              rw [hdr] at hrd
              have HF := Lib.hid (take_front v q (allBits (l.drop (k2 + 1))) hq)
              have HLB : Hid (leftBy (lowBits v q ++ allBits (l.drop (k2 + 1))) q = allBits (l.drop (k2 + 1))) := by
                show _ = _
                unfold leftBy
                rw [HF.out, if_pos rfl, Int.toNat_natCast, List.drop_append_of_le_length (by rw [length_lowBits]; exact Nat.le_refl _), List.drop_eq_nil_of_le (by rw [length_lowBits]; exact Nat.le_refl _)]; rfl
              have HM := Lib.hid (i64_and_mask v q hq)
              have hpw := pow_le62 q hq
              have hpw0 : (0 : Int) < 2 ^ q := Int.pow_pos (by decide)
              clear hdr ho hn1 hn2
              go_wp2_with fail
              refine (rdtake_any _ g _ q _ hrd).mono ?_
              rw [HF.out, HLB.out]
              rintro e w4 ⟨rfl, hrd4, hg4⟩
              simp only [two]
              have hx4 : Ext w w4 := Below.grown hext hg4 hext.size (fun k hk => by cases hk; exact hgz)
              obtain ⟨b', off', hbo, hd0, _⟩ := (hr.ext hx4) k2 l[k2] (List.getElem?_eq_getElem hlt')
              cases hbo
              rw [← HP.out] at hd0
              simp only at hd0
              have hzz : ((v % 2 ^ q : Int) != bits .and .i64 v (2 ^ q - 1)) = false := by rw [HM.out]; simp
              clear hc0 hc1 hrd hg4
              go_wp2_with fail
              go_roundw
              case rel => exact ⟨k2 + 1, by omega, by go_num, hrd4, hx4⟩
              case measure => simp [intOf]; omega
            · unfold itemBits at hdr
              rw [ho] at hdr
              simp only [Bool.false_eq_true, if_false, List.nil_append] at hdr
              rw [hdr] at hrd
              clear hdr ho hc0
              rcases hno with h | h
              all_goals
                go_wp2_with fail
                go_roundw
                case rel => exact ⟨k2 + 1, by omega, by go_num, hrd, hext⟩
                case measure => simp [intOf]; omega
          · have HE : Hid (allBits (l.drop k2) = []) := by show _ = _; rw [List.drop_eq_nil_of_le (by rw [HL.out]; omega)]; rfl
            rw [HE.out] at hrd
            have R1 := Lib.hid (show takeRes [] 0 1 = (0, 10) from by decide)
            have R2 := Lib.hid (show leftBy [] 1 = [] from by decide)
            go_wp2_with fail
            refine (rdtake_any _ g _ 1 _ hrd).mono ?_
            rw [R1.out, R2.out]
            rintro e w4 ⟨rfl, hrd4, hg4⟩
            simp only [two]
            have hx4 : Ext w w4 := Below.grown hext hg4 hext.size (fun k hk => by cases hk; exact hgz)
            clear hg4 hrd
            go_wp2_with fail
            refine (left_any _ g _ _ hrd4).mono ?_
            rintro e w' ⟨rfl, rfl⟩
            go_wp2_with fail
            refine (alive_any _).mono ?_
            rintro e w5 ⟨rfl, hx5⟩
            go_wp2_with fail
            go_ret
            exact ⟨rfl, hx4.trans hx5⟩

set_option maxRecDepth 100000 in
theorem bitsInverse_lifted (os : Os) (started : os.Started) (H : Type) (enc : TypeId × Value → H) :
    ReturnsInHanded {} Try.checked os 6 .any (Rows.bitsInverseSpec.pre6 enc Try.prog Try.f6 Rows.bitsInverseRow.domain false) (Rows.bitsInverseSpec.post enc Try.prog Try.f6 false true false false) := by
  refine returnsInHanded_of_change (C := Try.checked) Try.own started (by kernel_rfl) Try.func6
    (ChangeSpec.witness6 (enc := enc) (C := Try.checked) false ⟨#[], #[.slice none 0 0], []⟩ 8 (by kernel_rfl) (by kernel_rfl) (by kernel_rfl) (by kernel_rfl)) ?_
  intro W base args ds gs before hval0 hW _ _
  have hval : ∀ (j : Nat) t v, Try.f6.params[j]? = some t → args[j]? = some v → Value.okWide Try.prog W .any base t v := hval0
  have hW' := hW
  obtain ⟨p, q, hA0, hV, rfl, _, _⟩ := hW
  have hA : DataW.TrodAll enc Try.prog W 0 (fun _ => true) true Try.f6.params.toList args.toList ds p := hA0
  rw [Try.params6] at hA hval
  obtain ⟨rfl, rfl⟩ := trodVars_none hV
  clear hA0 hval0
  simp only [List.append_nil] at hW'
  have hlt : ∀ x ∈ p, x.block < W.heap.size := fun x hx => by simpa using hW'.lt x hx
  have hstay : ∀ W', Below W.heap.size W W' → _ := fun W' hb => args_stay (enc := enc) Try.laidOut hb _ _ _ _ (by kernel_rfl) hA hlt
  obtain ⟨v0, d0, rfl, rfl, h0⟩ := trodAll_one hA
  obtain ⟨ao0, len0, cap0, rfl⟩ := okWide_slice Try.underlying46 (hval 0 46 v0 rfl rfl)
  obtain ⟨fuel0, hf0⟩ := h0
  obtain ⟨l0, ao0', len0', cap0', hv0, hl0, hc0, hm0, hr0, _⟩ := view_items Try.underlying46 Try.underlying24 Try.underlying3 (by kernel_rfl) (by kernel_rfl) rfl rfl rfl rfl hf0
  cases hv0
  refine (bitsInverse_walk ao0 len0 cap0 l0 W hl0 hc0 hm0 hr0).mono fun e W' ⟨he, hb⟩ => ?_
  subst he
  exact ⟨_, rfl, _, _, _, [], _, [], hW', trodAll_mk1 (shut_bool Try.underlying4 _), hstay W' hb, rfl, hb.frame _, fun h => by cases h⟩

theorem bitsInverse_holds : Rows.BitsInverseSaid :=
  OpenClaim.holds_of_wide 6 Try.f6 rfl rfl rfl rfl rfl rfl rfl ⟨rfl, rfl, rfl, rfl, rfl⟩ rfl rfl rfl rfl rfl (by kernel_rfl) Try.func6 (by kernel_rfl)
    (of_decide_eq_true (by kernel_rfl)) (by unfold Func.isWrapper; first | (rw [if_pos (by decide +kernel)]; kernel_rfl) | (rw [if_neg (by decide +kernel)]; exact ⟨rfl, rfl⟩))
    (fun os started H enc _ => bitsInverse_lifted os started H enc)

end Go.Proofs.Ytkkfldnkenbplaa
