/-
  For every input BitsReads returns true, and each argument reads afterwards as it read before (Rows.BitsReadsSaid).
  No condition.
-/
import Derived.Test.YtkkfldnkenbplaaLawBase
namespace Go.Proofs.Ytkkfldnkenbplaa
open Go.RowKit Go.Bs Go.ChangeShapes Go.WideShapes Go.ChangeAt Go.Joins

theorem takeRes_drop (xs : List Bool) (p : Nat) (n : Int) (h : p ≤ xs.length) : takeRes (xs.drop p) 0 n = takeRes xs p n := by
  have e : ((xs.drop p).length : Int) = (xs.length : Int) - p := by rw [List.length_drop]; omega
  by_cases h1 : n < 0 ∨ 62 < n
  · rw [takeRes_1 (by omega), takeRes_1 (by omega)]
  · by_cases h2 : (xs.length : Int) - p < n
    · rw [takeRes_2 (by rw [e]; omega) (by rw [e]; omega), takeRes_2 (by omega) h2]
    · rw [takeRes_3 (by rw [e]; omega) (by rw [e]; omega), takeRes_3 (by omega) h2]
      simp

theorem takeRes_code (xs : List Bool) (p n : Int) : ((takeRes xs p n).2 = 0 ∧ 0 ≤ n ∧ 0 ≤ p ∧ p + n ≤ xs.length) ∨ (takeRes xs p n).2 = 3 ∨ (takeRes xs p n).2 = 10 := by
  unfold takeRes
  split
  · exact Or.inr (Or.inl rfl)
  · split
    · exact Or.inr (Or.inr rfl)
    · exact Or.inl ⟨rfl, by omega, by omega, by omega⟩

set_option maxRecDepth 20000 in
set_option maxHeartbeats 1000000 in
theorem bitsReads_walk (ao : Option Addr) (len cap : Nat) (xs : List Bool) (bo : Option Addr) (lb cb : Nat) (l : List Int) (w : World)
    (hl : xs.length = len) (_ : len ≤ cap) (_ : cap ≤ 9223372036854775807) (hn0 : ao = none → cap = 0) (hr : Row w ao (bools xs))
    (hl2 : l.length = lb) (_ : lb ≤ cb) (_ : cb ≤ 9223372036854775807) (_ : bo = none → cb = 0) (hr2 : Row w bo (ints l)) (_ : ∀ n ∈ l, -9223372036854775808 ≤ n ∧ n ≤ 9223372036854775807) :
    Calls Try.prog 5 #[.slice ao len cap, .slice bo lb cb] w fun e w' => e = .returned (.bool true) ∧ Ext w w' := by
  have HL := Lib.hid hl
  have HL2 := Lib.hid hl2
  clear hl hl2
  go_enter Try.func5, Try.ntmps5
  by_cases hbig : 2000 < len ∨ 100 < lb
  · rcases hbig with h | h
    all_goals
      go_wp2_with (go_at_call 12; refine (alive_any _).mono ?_; rintro e w1 ⟨rfl, hx⟩)
      all_goals
        go_ret
        exact ⟨rfl, by assumption⟩
  · have hs1 : len ≤ 2000 := by omega
    have hs2 : lb ≤ 100 := by omega
    clear hbig
    have hx0 := Ext.alloc w (.cells #[] 4)
    have hown0 := World.ownsRow_lit (base := w.heap.size) (e := 4) (size := 1) w #[] 0 (Nat.le_refl _) (Nat.zero_le _) rfl
    go_wp2_with (at_builtin; refine wpList_pushAll (ws := w) rfl _ _ 22 rfl w.heap.size 4 (.bool false) 1 Try.infoBool rfl Try.underlying22 _ rfl 0 [] hown0 _ _ _ rfl (bools xs) (hr.ext hx0) (by rw [length_bools]; exact HL.out) hn0 (bools_oneCell _) (by omega) (by omega) hx0 hx0.size ?_)
    intro s1 w1 hown1 hb1 _
    clear hown0
    try simp only [Nat.zero_add, List.nil_append] at hown1
    obtain ⟨ao1, cap1, rfl, h1, h2, h3, hrow1⟩ := own_row hown1
    have hn1 : ao1 = none → cap1 = 0 := by
      intro ha
      subst ha
      rcases hown1.2 with ⟨hv, _⟩ | ⟨g, cap', cur, hv, _⟩
      · simp at hv; exact hv.2
      · simp at hv
    go_wp2_with fail
    refine (newReader_any _ _ _ xs _ HL.out (by omega) hn1 hrow1).mono ?_
    rintro e w2 ⟨g, rfl, hrd, hg, hx2⟩
    clear hrow1
    have hown2 : w2.ownsRow w.heap.size 4 1 (.slice ao1 len cap1) len (bools xs) := hown1.kept (row := none) ⟨hx2.os, hx2.tape, hx2.output, hx2.size, fun k hk _ => hx2.block k hk⟩ (by cases hq : (Value.slice ao1 len cap1).ownBlock <;> simp)
    have hb2 := Ext.below hb1 hb1.size hx2
    have hz1 := hb1.size
    have hblk : ∀ k, (Value.slice ao1 len cap1).ownBlock = some k → w.heap.size ≤ k ∧ k < w1.heap.size := hown1.lt
    clear hown1 hb1
    go_wp2_with fail
    go_loopw [7, 30] (fun _ i wr => ∃ (k : Nat) (cs : List Bool), k ≤ len ∧ i = .int .i64 k ∧ Hid (cs.length = len) ∧ wr.ownsRow w.heap.size 4 1 (.slice ao1 len cap1) len (bools cs) ∧ Rd wr w1.heap.size g xs ∧ Below w.heap.size w wr)
       (fun _ i _ => len - (intOf i).toNat)
    case atStart => exact ⟨0, xs, Nat.zero_le _, rfl, HL, hown2, hrd, hb2⟩
    case round =>
      clear hown2 hrd hb2
      obtain ⟨k, cs, hk, rfl, HC, hown, hrd, hbel⟩ := hrel
      by_cases hlt : k < len
      · rcases hown.2 with ⟨hv, hv'⟩ | ⟨gc, cap', cur, hv, _⟩
        · exfalso; omega
        · cases hv
          have hgc := hblk gc rfl
          have hkc : k < cs.length := by rw [HC.out]; exact hlt
          obtain ⟨hc, hf⟩ := own_cell hown k _ (bools_at cs k hkc)
          go_wp2
          go_roundw
          case rel =>
            refine ⟨k + 1, cs.set k (!cs[k]), by omega, by go_num, ?_, ?_, hrd.keep hg ?_, hbel.setCell hgc.1 _⟩
            · show _ = _; rw [List.length_set]; exact HC.out
            · have := (hown.stored k (.bool (!cs[k]))).1
              rw [show (bools cs).set k (.bool (!cs[k])) = bools (cs.set k (!cs[k])) by simp [bools, List.map_set]] at this
              exact this
            · intro j hj _; exact Below.heap_setCell _ _ _ _ (by show j ≠ gc; omega)
          case measure => simp [intOf]; omega
      · clear hown HC
        go_wp2_with fail
        obtain ⟨wo, rfl⟩ : ∃ wo : World, wo = wr := ⟨_, rfl⟩
        go_loopw [4, 8, 9, 10, 11, 12, 13, 44] (fun _ p _ _ _ _ _ i wr => ∃ k p' : Nat, k ≤ lb ∧ p' ≤ len ∧ i = .int .i64 k ∧ p = .int .i64 p' ∧ Rd wr w1.heap.size g (xs.drop p') ∧ Below w.heap.size w wr)
          (fun _ _ _ _ _ _ _ i _ => lb - (intOf i).toNat)
        case atStart => exact ⟨0, 0, Nat.zero_le _, Nat.zero_le _, rfl, rfl, hrd, hbel⟩
        case round =>
          clear hrd hbel
          obtain ⟨k2, p, hk2, hp, rfl, rfl, hrd, hbel⟩ := hrel
          by_cases hlt2 : k2 < lb
          · have hlen : p ≤ xs.length := by rw [HL.out]; exact hp
            have HD : Hid (((xs.drop p).length : Int) = (len : Int) - p) := by show _ = _; rw [List.length_drop, HL.out]; omega
            obtain ⟨b, rfl, hcb⟩ := (hr2.ext hbel).at (Go.Bs.ints_at l k2 (by rw [HL2.out]; exact hlt2))
            have hra := hr.ext hbel
            obtain ⟨n, hn⟩ : ∃ n, n = l[k2]'(by rw [HL2.out]; exact hlt2) := ⟨_, rfl⟩
            rw [← hn] at hcb
            have HN := Lib.hid hn
            clear hn
            obtain ⟨t, hT⟩ : ∃ t, t = takeRes xs p n := ⟨_, rfl⟩
            have hcode := takeRes_code xs p n
            rw [← hT] at hcode
            have HT := Lib.hid hT
            have HT0 := Lib.hid (takeRes_drop xs p n hlen)
            clear hT
            obtain ⟨t1, t2⟩ := t
            simp only at hcode
            go_wp2_with fail
            refine (rdtake_any _ g _ n _ hrd).mono ?_
            rw [HT0.out, ← HT.out]
            rintro e w3 ⟨rfl, hrd3, hg3⟩
            simp only [two]
            have hb3 := hbel.grown hg3 hbel.size (fun k hk => by cases hk; omega)
            have hcb3 : w3.cell? (b.add k2) = some (.int .i64 n) := by
              obtain ⟨b', hb', hc'⟩ := (hr2.ext hb3).at (Go.Bs.ints_at l k2 (by rw [HL2.out]; exact hlt2))
              cases hb'
              rw [← HN.out] at hc'
              exact hc'
            replace hra := hr.ext hb3
            clear hrd hcb
            go_wp2_with fail
            refine (rtake_any _ _ _ xs _ _ _ HL.out (by omega) hra).mono ?_
            rw [← HT.out]
            rintro e w' ⟨rfl, rfl⟩
            simp only [two]
            rcases hcode with ⟨rfl, hn0', _, hnp⟩ | hcc
            · obtain ⟨q, rfl⟩ := Int.eq_ofNat_of_zero_le hn0'
              have hpq : p + q ≤ len := by have := HL.out; omega
              have hrd4 : Rd w3 w1.heap.size g (xs.drop (p + q)) := by
                unfold leftBy at hrd3
                rw [HT0.out, ← HT.out, if_pos rfl, List.drop_drop, Int.toNat_natCast] at hrd3
                exact hrd3
              have HD4 : Hid (((xs.drop (p + q)).length : Int) = (len : Int) - ((p : Int) + q)) := by show _ = _; rw [List.length_drop, HL.out]; omega
              clear hrd3 hnp hn0'
              go_wp2_with fail
              refine (left_any _ g _ _ hrd4).mono ?_
              rw [HD4.out]
              rintro e w' ⟨rfl, rfl⟩
              go_wp2_with fail
              go_roundw
              case rel => exact ⟨k2 + 1, p + q, by omega, hpq, by go_num, by go_num, hrd4, hb3⟩
              case measure => simp [intOf]; omega
            · have hrd4 : Rd w3 w1.heap.size g (xs.drop p) := by
                unfold leftBy at hrd3
                rw [HT0.out, ← HT.out, if_neg (by simp only; omega)] at hrd3
                exact hrd3
              have hq0 : (t2 == 0) = false := by rw [beq_eq_false_iff_ne]; omega
              clear hrd3 hcc
              go_wp2_with fail
              refine (left_any _ g _ _ hrd4).mono ?_
              rw [HD.out]
              rintro e w' ⟨rfl, rfl⟩
              go_wp2_with fail
              go_roundw
              case rel => exact ⟨k2 + 1, p, by omega, hp, by go_num, rfl, hrd4, hb3⟩
              case measure => simp [intOf]; omega
          · go_wp2_with fail
            refine (alive_any _).mono ?_
            rintro e w7 ⟨rfl, hx7⟩
            go_wp2_with fail
            go_ret
            exact ⟨rfl, Ext.below hbel hbel.size hx7⟩

set_option maxRecDepth 100000 in
theorem bitsReads_lifted (os : Os) (started : os.Started) (H : Type) (enc : TypeId × Value → H) :
    ReturnsInHanded {} Try.checked os 5 .any (Rows.bitsReadsSpec.pre6 enc Try.prog Try.f5 Rows.bitsReadsRow.domain false) (Rows.bitsReadsSpec.post enc Try.prog Try.f5 false true false false) := by
  refine returnsInHanded_of_change (C := Try.checked) Try.own started (by kernel_rfl) Try.func5
    (ChangeSpec.witness6 (enc := enc) (C := Try.checked) false ⟨#[], #[.slice none 0 0, .slice none 0 0], []⟩ 8 (by kernel_rfl) (by kernel_rfl) (by kernel_rfl) (by kernel_rfl)) ?_
  intro W base args ds gs before hval0 hW _ _
  have hval : ∀ (j : Nat) t v, Try.f5.params[j]? = some t → args[j]? = some v → Value.okWide Try.prog W .any base t v := hval0
  have hW' := hW
  obtain ⟨p, q, hA0, hV, rfl, _, _⟩ := hW
  have hA : DataW.TrodAll enc Try.prog W 0 (fun _ => true) true Try.f5.params.toList args.toList ds p := hA0
  rw [Try.params5] at hA hval
  obtain ⟨rfl, rfl⟩ := trodVars_none hV
  clear hA0 hval0
  simp only [List.append_nil] at hW'
  have hlt : ∀ x ∈ p, x.block < W.heap.size := fun x hx => by simpa using hW'.lt x hx
  have hstay : ∀ W', Below W.heap.size W W' → _ := fun W' hb => args_stay (enc := enc) Try.laidOut hb _ _ _ _ (by kernel_rfl) hA hlt
  obtain ⟨v0, v1, d0, d1, p0, p1, rfl, rfl, rfl, h0, h1⟩ := trodAll_two hA
  obtain ⟨ao0, len0, cap0, rfl⟩ := okWide_slice Try.underlying22 (hval 0 22 v0 rfl rfl)
  obtain ⟨fuel0, hf0⟩ := h0
  obtain ⟨xs0, ao0', len0', cap0', hv0, hl0, hc0, hm0, hn0, hr0⟩ := view_bools Try.underlying22 Try.underlying4 Try.cellsBool hf0
  cases hv0
  obtain ⟨ao1, len1, cap1, rfl⟩ := okWide_slice Try.underlying33 (hval 1 33 v1 rfl rfl)
  obtain ⟨fuel1, hf1⟩ := h1
  obtain ⟨xs1, ⟨ao1', len1', cap1', hv1, hl1, hc1, hm1, hn1, hr1⟩, hw1⟩ := view_nums Try.underlying33 Try.underlying3 Try.cellsInt hf1
  cases hv1
  refine (bitsReads_walk ao0 len0 cap0 xs0 ao1 len1 cap1 xs1 W (by rw [length_bools] at hl0; exact hl0) hc0 hm0 hn0 hr0 (by rw [List.length_map] at hl1; exact hl1) hc1 hm1 hn1 hr1 (fun n hn => wf_i64_bd (hw1 n hn))).mono fun e W' ⟨he, hb⟩ => ?_
  subst he
  exact ⟨_, rfl, _, _, _, [], _, [], hW', trodAll_mk1 (shut_bool Try.underlying4 _), hstay W' hb, rfl, hb.frame _, fun h => by cases h⟩

theorem bitsReads_holds : Rows.BitsReadsSaid :=
  OpenClaim.holds_of_wide 5 Try.f5 rfl rfl rfl rfl rfl rfl rfl ⟨rfl, rfl, rfl, rfl, rfl⟩ rfl rfl rfl rfl rfl (by kernel_rfl) Try.func5 (by kernel_rfl)
    (of_decide_eq_true (by kernel_rfl)) (by unfold Func.isWrapper; first | (rw [if_pos (by decide +kernel)]; kernel_rfl) | (rw [if_neg (by decide +kernel)]; exact ⟨rfl, rfl⟩))
    (fun os started H enc _ => bitsReads_lifted os started H enc)


end Go.Proofs.Ytkkfldnkenbplaa
