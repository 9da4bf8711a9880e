/-
  For every input QrdataContents returns true, and each argument reads afterwards as it read before (Rows.QrdataContentsSaid).
  No condition.
-/
import Derived.Test.YtbfcgggcdmafoaaQrH
namespace Go.Proofs.Ytbfcgggcdmafoaa
open Go.RowKit Go.Bs Go.ChangeShapes Go.WideShapes Go.ChangeAt Go.Joins Go.Qr

theorem end_eq (n K : Nat) (h : n ≤ 8 * K) : ∃ e0 e1 : Nat, min ((n : Int) + 4) (8 * (K : Int)) = (e0 : Int) ∧ (e0 : Int) % 8 = (e1 : Int) ∧ (8 - (e1 : Int)) % 8 = ((8 * nb n K - e0 : Nat) : Int) ∧ e0 ≤ 8 * nb n K ∧ e0 ≤ 8 * K ∧ e1 < 8 := by
  have h8 := body8 n K h
  refine ⟨min (n + 4) (8 * K), min (n + 4) (8 * K) % 8, by omega, by omega, ?_, ?_, by omega, by omega⟩
  all_goals unfold t2 t1 at h8; omega

set_option maxRecDepth 20000 in
set_option maxHeartbeats 1600000 in
theorem qrdataContents_walk (ao : Option Addr) (len cap : Nat) (xs : List Bool) (n : Int) (w : World) (hl : xs.length = len) (hcap : len ≤ cap) (hmax : cap ≤ 9223372036854775807) (hno : ao = none → cap = 0) (hr : Row w ao (bools xs)) (hnb : -9223372036854775808 ≤ n ∧ n ≤ 9223372036854775807) :
    Calls Try.prog 6 #[.slice ao len cap, .int .i64 n] w fun e w' => e = .returned (.bool true) ∧ Ext w w' := by
  have HP := Lib.hid (pad_any ao len cap xs n w hl hcap hmax hno hr)
  have hcase : n < 0 ∨ (0 ≤ n ∧ 4096 < n) ∨ ∃ K : Nat, n = K ∧ K ≤ 4096 := by
    by_cases h : n < 0
    · exact Or.inl h
    · by_cases h2 : 4096 < n
      · exact Or.inr (Or.inl ⟨by omega, h2⟩)
      · exact Or.inr (Or.inr ⟨n.toNat, by omega, by omega⟩)
  rcases hcase with h | ⟨h, h'⟩ | ⟨K, rfl, hK⟩
  · rw [padRes_1 (Or.inl h)] at HP
    clear hl
    go_enter Try.func6, Try.ntmps6
    go_wp2_with fail
    refine HP.out.mono ?_
    intro e w1 hret
    obtain ⟨so, sc, rfl, hs1, hc1, hm1, hn1, hx1⟩ := hret.ints
    clear hret
    go_wp2_with fail
    refine (examples_any _).mono ?_
    rintro e w4 ⟨rfl, hx4⟩
    go_wp2_with fail
    go_ret
    exact ⟨rfl, hx1.trans hx4⟩
  · rw [padRes_1 (Or.inr h')] at HP
    clear hl
    go_enter Try.func6, Try.ntmps6
    go_wp2_with fail
    refine HP.out.mono ?_
    intro e w1 hret
    obtain ⟨so, sc, rfl, hs1, hc1, hm1, hn1, hx1⟩ := hret.ints
    clear hret
    go_wp2_with fail
    refine (examples_any _).mono ?_
    rintro e w4 ⟨rfl, hx4⟩
    go_wp2_with fail
    go_ret
    exact ⟨rfl, hx1.trans hx4⟩
  · by_cases hbig : 8 * K < len
    · rw [padRes_2 hK (by omega)] at HP
      clear hl
      go_enter Try.func6, Try.ntmps6
      go_wp2_with fail
      refine HP.out.mono ?_
      intro e w1 hret
      obtain ⟨so, sc, rfl, hs1, hc1, hm1, hn1, hx1⟩ := hret.ints
      clear hret
      go_wp2_with fail
      refine (examples_any _).mono ?_
      rintro e w4 ⟨rfl, hx4⟩
      go_wp2_with fail
      go_ret
      exact ⟨rfl, hx1.trans hx4⟩
    · have hle : xs.length ≤ 8 * K := by omega
      rw [padRes_3 hK hle] at HP
      have HLE := Lib.hid hle
      have HL := Lib.hid hl
      have hlk : len ≤ 8 * K := by omega
      have hl1 : len ≤ xs.length := by omega
      have HPL := Lib.hid (length_padW xs K hle)
      obtain ⟨e0, e1, hmin, hrem, hrem2, he0, he0', he1⟩ := end_eq len K hlk
      have h8 := body8 len K hlk
      have hZK := h8.2
      obtain ⟨Z, hZ⟩ : ∃ Z, Z = nb len K := ⟨_, rfl⟩
      rw [← hZ] at hrem2 he0 hZK h8
      have HZ : Hid (Z = nb xs.length K) := by show _ = _; rw [hZ, HL.out]
      have hZn : len ≤ 8 * Z := by omega
      clear hl hle hbig hZ h8
      obtain ⟨PW, hPW⟩ : ∃ PW, PW = padW xs K := ⟨_, rfl⟩
      have HPW := Lib.hid hPW
      rw [← hPW] at HP HPL
      clear hPW
      have hpl1 : PW.length ≤ K := by have := HPL.out; omega
      have hpl2 : K ≤ PW.length := by have := HPL.out; omega
      have HBD : Hid (∀ j (h : j < PW.length), 0 ≤ PW[j] ∧ PW[j] ≤ 255) := by
        intro j h
        have := padW_bd xs K j HLE.out (by omega)
        simp only [← HPW.out] at this
        exact this
      have HBI : Hid (∀ i (h : i < len) (h' : i / 8 < PW.length), bitOf PW[i / 8] (7 - i % 8) = xs[i]'(by omega)) := by
        intro i h h'
        have := padW_bit xs K i HLE.out (by omega)
        simp only [← HPW.out] at this
        rw [this, full_in xs K i HLE.out (by omega)]
      have HBM : Hid (∀ i (_ : len ≤ i) (_ : i < 8 * Z) (h' : i / 8 < PW.length), bitOf PW[i / 8] (7 - i % 8) = false) := by
        intro i h1 h2 h'
        have := padW_bit xs K i HLE.out (by omega)
        simp only [← HPW.out] at this
        rw [this, full_mid xs K i HLE.out (by rw [HL.out]; exact h1) (by rw [← HZ.out]; exact h2)]
      have HBP : Hid (∀ j (h : j < PW.length), Z ≤ j → PW[j] = padNum (j - Z)) := by
        intro j h h2
        have := padW_pad xs K j HLE.out (by omega) (by rw [← HZ.out]; exact h2)
        simp only [← HPW.out] at this
        rw [this, ← HZ.out]
      go_enter Try.func6, Try.ntmps6
      go_wp2_with fail
      refine HP.out.mono ?_
      intro e w1 hret
      obtain ⟨so, sc, rfl, hs1, hc1, hm1, hn1, hx1⟩ := hret.ints
      clear hret
      rw [HPL.out] at hc1 ⊢
      have HX1 := Lib.hid hx1
      have HS1 := Lib.hid hs1
      clear hx1 hs1
      go_wp2_with fail
      go_loop [7, 8, 79] (fun _ _ i => ∃ k : Nat, k ≤ len ∧ i = .int .i64 k) (fun _ _ i => len - (intOf i).toNat)
      case atStart => exact ⟨0, Nat.zero_le _, rfl⟩
      case round =>
        obtain ⟨k, hk, rfl⟩ := hrel
        by_cases hlt : k < len
        · obtain ⟨a, rfl, hc⟩ := (hr.ext HX1.out).at (bools_at xs k (by omega))
          have HB := Lib.hid (bit_any so K sc PW k (k / 8) (k % 8) w1 HPL.out hc1 hm1 rfl rfl (by omega) (by omega) (HBD.out _ (by omega)) HS1.out)
          rw [HBI.out k hlt (by omega)] at HB
          have hbb : (!xs[k] == xs[k]) = false := by simp
          have hbb' : (xs[k] != xs[k]) = false := by simp
          go_wp2_with fail
          refine HB.out.mono ?_
          rintro e w' ⟨rfl, rfl⟩
          go_wp2_with fail
          go_round
          case rel => exact ⟨k + 1, by omega, int_eq (by omega)⟩
          case measure => simp [intOf]; omega
        · obtain rfl : k = len := by omega
          go_wp2_with fail
          rw [show (e0 : Int) + ((8 * Z - e0 : Nat) : Int) = 8 * (Z : Int) by omega]
          clear hmin hrem hrem2 he0 he0' he1
          go_loop [10] (fun i => ∃ q : Nat, k ≤ q ∧ q ≤ 8 * Z ∧ i = .int .i64 q) (fun i => 8 * Z - (intOf i).toNat)
          case atStart => exact ⟨k, Nat.le_refl _, hZn, rfl⟩
          case round =>
            obtain ⟨q, hkq, hqZ, rfl⟩ := hrel
            by_cases hlt2 : q < 8 * Z
            · have HB := Lib.hid (bit_any so K sc PW q (q / 8) (q % 8) w1 HPL.out hc1 hm1 rfl rfl (by omega) (by omega) (HBD.out _ (by omega)) HS1.out)
              rw [HBM.out q hkq hlt2 (by omega)] at HB
              go_wp2_with fail
              refine HB.out.mono ?_
              rintro e w' ⟨rfl, rfl⟩
              go_wp2_with fail
              go_round
              case rel => exact ⟨q + 1, by omega, by omega, int_eq (by omega)⟩
              case measure => simp [intOf]; omega
            · obtain rfl : q = 8 * Z := by omega
              go_wp2_with fail
              go_loop [11, 12] (fun i _ => ∃ j : Nat, Z ≤ j ∧ j ≤ K ∧ i = .int .i64 j) (fun i _ => K - (intOf i).toNat)
              case atStart => exact ⟨Z, Nat.le_refl _, hZK, rfl⟩
              case round =>
                obtain ⟨j, hZj, hjK, rfl⟩ := hrel
                by_cases hlt3 : j < K
                · obtain ⟨a3, ha3, hc3⟩ := HS1.out.at (Go.Bs.ints_at PW j (by omega))
                  subst ha3
                  rw [HBP.out j (by omega) hZj] at hc3
                  rcases Nat.mod_two_eq_zero_or_one (j - Z) with hp | hp
                  · rw [show padNum (j - Z) = 236 from by unfold padNum; rw [if_pos hp]] at hc3
                    have hpar : ((j : Int) - (Z : Int)) % 2 = 0 := by omega
                    clear hp
                    go_wp2_with fail
                    go_round
                    case rel => exact ⟨j + 1, by omega, by omega, int_eq (by omega)⟩
                    case measure => simp [intOf]; omega
                  · rw [show padNum (j - Z) = 17 from by unfold padNum; rw [if_neg (by omega)]] at hc3
                    have hpar : ((j : Int) - (Z : Int)) % 2 = 1 := by omega
                    clear hp
                    go_wp2_with fail
                    go_round
                    case rel => exact ⟨j + 1, by omega, by omega, int_eq (by omega)⟩
                    case measure => simp [intOf]; omega
                · go_wp2_with fail
                  refine (examples_any _).mono ?_
                  rintro e w4 ⟨rfl, hx4⟩
                  go_wp2_with fail
                  go_ret
                  exact ⟨rfl, HX1.out.trans hx4⟩

set_option maxRecDepth 100000 in
theorem qrdataContents_lifted (os : Os) (started : os.Started) (H : Type) (enc : TypeId × Value → H) :
    ReturnsInHanded {} Try.checked os 6 .any (Rows.qrdataContentsSpec.pre6 enc Try.prog Try.f6 Rows.qrdataContentsRow.domain false) (Rows.qrdataContentsSpec.post enc Try.prog Try.f6 false true false false) := by
  refine returnsInHanded_of_change (C := Try.checked) Try.own started (by kernel_rfl) Try.func6
    (ChangeSpec.witness6 (enc := enc) (C := Try.checked) false ⟨#[], #[.slice none 0 0, .int .i64 0], []⟩ 8 (by kernel_rfl) (by kernel_rfl) (by kernel_rfl) (by kernel_rfl)) ?_
  intro W base args ds gs before hval0 hW _ _
  have hval : ∀ (j : Nat) t v, Try.f6.params[j]? = some t → args[j]? = some v → Value.okWide Try.prog W .any base t v := hval0
  have hW' := hW
  obtain ⟨p, q, hA0, hV, rfl, _, _⟩ := hW
  have hA : DataW.TrodAll enc Try.prog W 0 (fun _ => true) true Try.f6.params.toList args.toList ds p := hA0
  rw [Try.params6] at hA hval
  obtain ⟨rfl, rfl⟩ := trodVars_none hV
  clear hA0 hval0
  simp only [List.append_nil] at hW'
  have hlt : ∀ x ∈ p, x.block < W.heap.size := fun x hx => by simpa using hW'.lt x hx
  have hstay : ∀ W', Below W.heap.size W W' → _ := fun W' hb => args_stay (enc := enc) Try.laidOut hb _ _ _ _ (by kernel_rfl) hA hlt
  obtain ⟨v0, v1, d0, d1, p0, p1, rfl, rfl, rfl, h0, h1⟩ := trodAll_two hA
  obtain ⟨ao0, len0, cap0, rfl⟩ := okWide_slice Try.underlying24 (hval 0 24 v0 rfl rfl)
  obtain ⟨fuel0, hf0⟩ := h0
  obtain ⟨xs0, ao0', len0', cap0', hv0, hl0, hc0, hm0, hn0, hr0⟩ := view_bools Try.underlying24 Try.underlying4 Try.cellsBool hf0
  cases hv0
  obtain ⟨x1, rfl, rfl, rfl, wx1⟩ := open_int Try.underlying3 (hval 1 3 v1 rfl rfl) h1
  refine (qrdataContents_walk ao0 len0 cap0 xs0 x1 W (by rw [length_bools] at hl0; exact hl0) hc0 hm0 hn0 hr0 (wf_i64_bd wx1)).mono fun e W' ⟨he, hb⟩ => ?_
  subst he
  exact ⟨_, rfl, _, _, _, [], _, [], hW', trodAll_mk1 (shut_bool Try.underlying4 _), hstay W' hb, rfl, hb.frame _, fun h => by cases h⟩

theorem qrdataContents_holds : Rows.QrdataContentsSaid :=
  OpenClaim.holds_of_wide 6 Try.f6 rfl rfl rfl rfl rfl rfl rfl ⟨rfl, rfl, rfl, rfl, rfl⟩ rfl rfl rfl rfl rfl (by kernel_rfl) Try.func6 (by kernel_rfl)
    (of_decide_eq_true (by kernel_rfl)) (by unfold Func.isWrapper; first | (rw [if_pos (by decide +kernel)]; kernel_rfl) | (rw [if_neg (by decide +kernel)]; exact ⟨rfl, rfl⟩))
    (fun os started H enc _ => qrdataContents_lifted os started H enc)


end Go.Proofs.Ytbfcgggcdmafoaa
