/-
  For every input BitsReturns returns true, and each argument reads afterwards as it read before (Rows.BitsReturnsSaid).
  No condition.
-/
import Derived.Test.YtkkfldnkenbplaaLawBase
import Derived.Test.YtkkfldnkenbplaaBitsLaws
namespace Go.Proofs.Ytkkfldnkenbplaa
open Go.RowKit Go.Bs Go.ChangeShapes Go.WideShapes Go.ChangeAt Go.Joins

theorem row_front {w : World} {ao : Option Addr} {cs ds : List Value} (h : Row w ao (cs ++ ds)) : Row w ao cs := by
  intro i v hi
  have := (List.getElem?_eq_some_iff.1 hi).1
  exact h i v (by rw [List.getElem?_append_left this]; exact hi)

set_option maxRecDepth 20000 in
set_option maxHeartbeats 1000000 in
theorem bitsReturns_walk (ao : Option Addr) (len cap : Nat) (xs : List Bool) (size : Int) (fill : Bool) (w : World)
    (hl : xs.length = len) (hcap : len ≤ cap) (_ : cap ≤ 9223372036854775807) (_ : ao = none → cap = 0) (hr : Row w ao (bools xs))
    (_ : -9223372036854775808 ≤ size ∧ size ≤ 9223372036854775807) :
    Calls Try.prog 11 #[.slice ao len cap, .int .i64 size, .bool fill] w fun e w' => e = .returned (.bool true) ∧ Ext w w' := by
  have HL := Lib.hid hl
  clear hl
  go_enter Try.func11, Try.ntmps11
  by_cases hbig : 2000 < len
  · go_wp2_with fail
    refine (alive_any _).mono ?_
    rintro e w1 ⟨rfl, hx⟩
    go_wp2_with fail
    go_ret
    exact ⟨rfl, hx⟩
  · have hs1 : len ≤ 2000 := by omega
    have hle : xs.length ≤ 2000 := by have := HL.out; omega
    clear hbig
    have hcn := cnt_bd xs
    rw [HL.out] at hcn
    have HB := Lib.hid (fbRes_back xs hle)
    have HB2 := Lib.hid (parseRes_back xs hle)
    go_wp2_with fail
    refine (bytes_any _ _ _ xs _ HL.out (by omega) hr).mono ?_
    intro e w1 hret
    obtain ⟨b1, c1, rfl, h1, _, _, _, hx1⟩ := hret.byts
    clear hret
    replace hr := hr.ext hx1
    go_wp2_with fail
    refine (fromBytes_any _ _ _ _ _ _ rfl (by rw [length_bytesOf]; omega) h1).mono ?_
    rw [← HL.out, HB.out, HL.out]
    intro e w2 hret
    obtain ⟨b2', c2, rfl, h2, _, _, _, hx2⟩ := hret.bools
    rw [HL.out]
    clear hret h1
    replace hr := hr.ext hx2
    go_wp2_with fail
    refine (format_any _ _ _ xs _ HL.out (by omega) hr).mono ?_
    rintro e w3 ⟨rfl, hx3⟩
    replace hr := hr.ext hx3
    replace h2 := h2.ext hx3
    go_wp2_with fail
    refine (parse_any _ _ (by show (fmtBits xs).toArray.size ≤ _; rw [List.size_toArray, length_fmtBits]; omega)).mono ?_
    rw [show (ByteArray.mk (fmtBits xs).toArray).data.toList = fmtBits xs from by simp, HB2.out]
    intro e w4 hret
    obtain ⟨b4, c4, rfl, h4, _, _, _, hx4⟩ := hret.bools
    rw [HL.out]
    clear hret
    replace hr := hr.ext hx4
    replace h2 := h2.ext hx4
    go_wp2_with fail
    refine (same_any _ _ _ _ _ _ xs xs _ HL.out HL.out (by omega) hr h2).mono ?_
    rw [show (xs == xs) = true from by simp]
    rintro e w5 ⟨rfl, hx5⟩
    replace hr := hr.ext hx5
    replace h4 := h4.ext hx5
    go_wp2_with fail
    refine (same_any _ _ _ _ _ _ xs xs _ HL.out HL.out (by omega) hr h4).mono ?_
    rw [show (xs == xs) = true from by simp]
    rintro e w6 ⟨rfl, hx6⟩
    replace hr := hr.ext hx6
    clear h2 h4
    go_wp2_with fail
    refine (weight_any _ _ _ xs _ HL.out (by omega) hr).mono ?_
    rintro e w' ⟨rfl, rfl⟩
    have hx06 := hx1.trans (hx2.trans (hx3.trans (hx4.trans (hx5.trans hx6))))
    clear hx1 hx2 hx3 hx4 hx5 hx6
    obtain ⟨cw, hcw⟩ : ∃ cw, cw = cnt xs := ⟨_, rfl⟩
    rw [← hcw] at hcn ⊢
    clear hcw
    by_cases hsz : size < 1 ∨ 62 < size
    · have HW := Lib.hid (wordsRes_1 (xs := xs) (fill := fill) hsz)
      go_wp2_with fail
      refine (words_any _ _ _ xs _ _ _ HL.out hcap (by omega) hr).mono ?_
      rw [HW.out]
      intro e w7 hret
      obtain ⟨b7, c7, rfl, h7, _, _, _, hx7⟩ := hret.ints
      clear hret h7
      rcases hsz with hsz | hsz
      all_goals
        go_wp2_with fail
        refine (alive_any _).mono ?_
        rintro e w8 ⟨rfl, hx8⟩
        go_wp2_with fail
        go_ret
        exact ⟨rfl, hx06.trans (hx7.trans hx8)⟩
    · obtain ⟨q, rfl⟩ := Int.eq_ofNat_of_zero_le (show 0 ≤ size by omega)
      have hq1 : 1 ≤ q := by omega
      have hq2 : q ≤ 62 := by omega
      clear hsz
      obtain ⟨R, hR, hfr, hwc, hwl⟩ := words_back xs q fill hle hq1 hq2
      obtain ⟨t, hT⟩ : ∃ t, t = wordsRes xs q fill := ⟨_, rfl⟩
      rw [← hT] at hfr hwc hwl
      have HT := Lib.hid hT
      clear hT
      obtain ⟨ws, wc⟩ := t
      simp only at hfr hwc hwl
      subst hwc
      have HF := Lib.hid hfr
      clear hfr
      go_wp2_with fail
      refine (words_any _ _ _ xs _ _ _ HL.out hcap (by omega) hr).mono ?_
      rw [← HT.out]
      intro e w7 hret
      obtain ⟨b7, c7, rfl, h7, _, _, _, hx7⟩ := hret.ints
      clear hret
      replace hr := hr.ext hx7
      go_wp2_with fail
      refine (fromWords_any _ _ _ ws _ _ rfl (by omega) h7).mono ?_
      rw [HF.out]
      intro e w8 hret
      obtain ⟨b8, c8, rfl, h8, hc8, hm8, _, hx8⟩ := hret.bools
      have HLR : Hid ((xs ++ List.replicate R fill).length = len + R) := by show _ = _; simp [HL.out]
      rw [HLR.out] at hc8 ⊢
      clear hret h7
      replace hr := hr.ext hx8
      go_wp2_with fail
      refine (same_any _ _ _ _ _ _ xs xs _ HL.out HL.out (by omega) (row_front (by rw [bools_append] at h8; exact h8)) hr).mono ?_
      rw [show (xs == xs) = true from by simp]
      rintro e w9 ⟨rfl, hx9⟩
      replace h8 := h8.ext hx9
      clear hr
      go_wp2_with fail
      have hx09 := hx06.trans (hx7.trans (hx8.trans hx9))
      clear hx06 hx7 hx8 hx9
      go_loop [6, 15] (fun _ i => ∃ k : Nat, k ≤ R ∧ i = .int .i64 ((len : Int) + k)) (fun _ i => len + R - (intOf i).toNat)
      case atStart => exact ⟨0, Nat.zero_le _, by go_num⟩
      case round =>
        obtain ⟨k, hk, rfl⟩ := hrel
        by_cases hlt : k < R
        · obtain ⟨a, rfl, hc⟩ := h8.at (i := len + k) (v := .bool fill) (by
            rw [bools_at _ _ (by rw [HLR.out]; omega), List.getElem_append_right (by rw [HL.out]; omega)]; simp)
          have hz : (!fill == fill) = false := by cases fill <;> rfl
          cases fill
          all_goals
            go_wp2_with fail
            go_round
            case rel => exact ⟨k + 1, by omega, by go_num⟩
            case measure => simp [intOf]; omega
        · go_wp2_with fail
          refine (alive_any _).mono ?_
          rintro e w10 ⟨rfl, hx10⟩
          go_wp2_with fail
          go_ret
          exact ⟨rfl, hx09.trans hx10⟩

set_option maxRecDepth 100000 in
theorem bitsReturns_lifted (os : Os) (started : os.Started) (H : Type) (enc : TypeId × Value → H) :
    ReturnsInHanded {} Try.checked os 11 .any (Rows.bitsReturnsSpec.pre6 enc Try.prog Try.f11 Rows.bitsReturnsRow.domain false) (Rows.bitsReturnsSpec.post enc Try.prog Try.f11 false true false false) := by
  refine returnsInHanded_of_change (C := Try.checked) Try.own started (by kernel_rfl) Try.func11
    (ChangeSpec.witness6 (enc := enc) (C := Try.checked) false ⟨#[], #[.slice none 0 0, .int .i64 0, .bool false], []⟩ 8 (by kernel_rfl) (by kernel_rfl) (by kernel_rfl) (by kernel_rfl)) ?_
  intro W base args ds gs before hval0 hW _ _
  have hval : ∀ (j : Nat) t v, Try.f11.params[j]? = some t → args[j]? = some v → Value.okWide Try.prog W .any base t v := hval0
  have hW' := hW
  obtain ⟨p, q, hA0, hV, rfl, _, _⟩ := hW
  have hA : DataW.TrodAll enc Try.prog W 0 (fun _ => true) true Try.f11.params.toList args.toList ds p := hA0
  rw [Try.params11] at hA hval
  obtain ⟨rfl, rfl⟩ := trodVars_none hV
  clear hA0 hval0
  simp only [List.append_nil] at hW'
  have hlt : ∀ x ∈ p, x.block < W.heap.size := fun x hx => by simpa using hW'.lt x hx
  have hstay : ∀ W', Below W.heap.size W W' → _ := fun W' hb => args_stay (enc := enc) Try.laidOut hb _ _ _ _ (by kernel_rfl) hA hlt
  obtain ⟨v0, v1, v2, d0, d1, d2, p0, p1, p2, rfl, rfl, rfl, h0, h1, h2⟩ := trodAll_three hA
  obtain ⟨ao0, len0, cap0, rfl⟩ := okWide_slice Try.underlying22 (hval 0 22 v0 rfl rfl)
  obtain ⟨fuel0, hf0⟩ := h0
  obtain ⟨xs0, ao0', len0', cap0', hv0, hl0, hc0, hm0, hn0, hr0⟩ := view_bools Try.underlying22 Try.underlying4 Try.cellsBool hf0
  cases hv0
  obtain ⟨x1, rfl, rfl, rfl, wx1⟩ := open_int Try.underlying3 (hval 1 3 v1 rfl rfl) h1
  obtain ⟨x2, rfl, rfl, rfl⟩ := open_bool Try.underlying4 (hval 2 4 v2 rfl rfl) h2
  refine (bitsReturns_walk ao0 len0 cap0 xs0 x1 x2 W (by rw [length_bools] at hl0; exact hl0) hc0 hm0 hn0 hr0 (wf_i64_bd wx1)).mono fun e W' ⟨he, hb⟩ => ?_
  subst he
  exact ⟨_, rfl, _, _, _, [], _, [], hW', trodAll_mk1 (shut_bool Try.underlying4 _), hstay W' hb, rfl, hb.frame _, fun h => by cases h⟩

theorem bitsReturns_holds : Rows.BitsReturnsSaid :=
  OpenClaim.holds_of_wide 11 Try.f11 rfl rfl rfl rfl rfl rfl rfl ⟨rfl, rfl, rfl, rfl, rfl⟩ rfl rfl rfl rfl rfl (by kernel_rfl) Try.func11 (by kernel_rfl)
    (of_decide_eq_true (by kernel_rfl)) (by unfold Func.isWrapper; first | (rw [if_pos (by decide +kernel)]; kernel_rfl) | (rw [if_neg (by decide +kernel)]; exact ⟨rfl, rfl⟩))
    (fun os started H enc _ => bitsReturns_lifted os started H enc)


end Go.Proofs.Ytkkfldnkenbplaa
