/-
  The contract of the reference's aligned.
  Conditions: the slice holds the alignment coordinates, which lie apart; small numbers.
-/
import Derived.Test.YtjkpdhcnklgfbaaLayA
import Derived.Deep.QuietTactic
namespace Go.Proofs.Ytjkpdhcnklgfbaa
open Go.RowKit Go.Bs Go.Qrv Go.Lay


set_option maxRecDepth 20000 in
set_option maxHeartbeats 4000000 in
theorem raligned_any (s x y : Int) (l : List Int) (ao : Option Addr) (cap : Nat) (w : World) (hr : Row w ao (ints l)) (hn : l.length ≤ 1000) (hb : ∀ a ∈ l, 0 ≤ a ∧ a ≤ 1000) (hs : 0 ≤ s ∧ s ≤ 1000) (hsp : Sparse l) :
    Calls Try.prog 71 #[.slice ao l.length cap, .int .i64 s, .int .i64 x, .int .i64 y] w fun e w' => e = .returned (.tuple #[.int .i64 (rAl l s x y).1, .int .i64 (rAl l s x y).2.1, .bool (rAl l s x y).2.2]) ∧ Ext w w' := by
  obtain ⟨n, hnl⟩ : ∃ n, n = l.length := ⟨_, rfl⟩
  have HN := Lib.hid hnl
  obtain ⟨R, hR⟩ : ∃ R, R = rAl l s x y := ⟨_, rfl⟩
  have HHIT : Hid (∀ i k (hi : i < l.length) (hk : k < l.length), Hit s x y l[i] l[k] → R = (l[i], l[k], true)) := by
    intro i k hi hk h
    rw [hR]
    unfold rAl
    rw [alP_hit l hsp s x y i k hi hk h]
    rfl
  have HNONE : Hid ((∀ i k (hi : i < l.length) (hk : k < l.length), ¬ Hit s x y l[i] l[k]) → R = (0, 0, false)) := by
    intro h
    rw [hR]
    unfold rAl
    rw [alP_no l s x y h]
    rfl
  rw [← hR]
  rw [← hnl] at hn ⊢
  have HR := Lib.hid hr
  have HBD := Lib.hid hb
  clear hr hb hnl hR hsp
  obtain ⟨r1, r2, r3⟩ := R
  go_enter Try.func71, Try.ntmps71
  go_wp2_with fail
  go_loopw [11, 12, 13, 14, 15] (fun i _ _ _ _ wr => ∃ k : Nat, k ≤ n ∧ i = .int .i64 k ∧ Hid (∀ i' k' (hi : i' < l.length) (hk : k' < l.length), i' < k → ¬ Hit s x y l[i'] l[k']) ∧ Hid (Ext w wr)) (fun i _ _ _ _ _ => n - (intOf i).toNat)
  case atStart => exact ⟨0, Nat.zero_le _, rfl, fun i' k' _ _ h => by omega, Ext.refl _⟩
  case round =>
    obtain ⟨i, hi, rfl, HO, HXO⟩ := hrel
    by_cases hlti : i < n
    · have HM0 : Hid (∀ i' k' (hi : i' < l.length) (hk : k' < l.length), (i' < i ∨ i' = i ∧ k' < 0) → ¬ Hit s x y l[i'] l[k']) := fun i' k' hi' hk' h => HO.out i' k' hi' hk' (by omega)
      go_wp2_with fail
      go_loopw [12, 13, 14, 15] (fun kk _ _ _ wr => ∃ k : Nat, k ≤ n ∧ kk = .int .i64 k ∧ Hid (∀ i' k' (hi : i' < l.length) (hk : k' < l.length), (i' < i ∨ i' = i ∧ k' < k) → ¬ Hit s x y l[i'] l[k']) ∧ Hid (Ext w wr)) (fun kk _ _ _ _ => n - (intOf kk).toNat)
      case atStart => exact ⟨0, Nat.zero_le _, rfl, HM0, HXO⟩
      case round =>
        clear HM0 HXO
        obtain ⟨k, hk, rfl, HM, HX⟩ := hrel
        by_cases hlt : k < n
        · have hil : i < l.length := by rw [← HN.out]; exact hlti
          have hkl : k < l.length := by rw [← HN.out]; exact hlt
          have hrx := HR.out.ext HX.out
          obtain ⟨a, rfl, hc1⟩ := hrx.at (ints_at l i hil)
          obtain ⟨a', ha', hc2⟩ := hrx.at (ints_at l k hkl)
          obtain rfl : a = a' := by simpa using ha'
          have hbd1 := HBD.out l[i] (List.getElem_mem hil)
          have hbd2 := HBD.out l[k] (List.getElem_mem hkl)
          have HH := Lib.hid (HHIT.out i k hil hkl)
          obtain ⟨A, hA⟩ : ∃ A, A = l[i] := ⟨_, rfl⟩
          obtain ⟨B, hB2⟩ : ∃ B, B = l[k] := ⟨_, rfl⟩
          rw [← hA] at hc1 hbd1 HH
          rw [← hB2] at hc2 hbd2 HH
          have HA := Lib.hid hA
          have HB2 := Lib.hid hB2
          clear hA hB2 ha' hrx
          have hcs : ((A == 6) = true ∧ (B == 6) = true ∧ corn s A B = true) ∨ ((A == 6) = true ∧ (B == 6) = false ∧ (B == s - 7) = true ∧ corn s A B = true) ∨ ((A == 6) = true ∧ (B == 6) = false ∧ (B == s - 7) = false ∧ (A == s - 7) = true ∧ corn s A B = false) ∨
              ((A == 6) = true ∧ (B == 6) = false ∧ (B == s - 7) = false ∧ (A == s - 7) = false ∧ corn s A B = false) ∨ ((A == 6) = false ∧ (A == s - 7) = true ∧ (B == 6) = true ∧ corn s A B = true) ∨ ((A == 6) = false ∧ (A == s - 7) = true ∧ (B == 6) = false ∧ corn s A B = false) ∨ ((A == 6) = false ∧ (A == s - 7) = false ∧ corn s A B = false) := by
            unfold corn
            cases A == 6 <;> cases B == 6 <;> cases B == s - 7 <;> cases A == s - 7 <;> simp
          go_wp2_with fail
          go_quiet (fail)
          rcases hcs with ⟨c1, c2, hc⟩ | ⟨c1, c2, c3, hc⟩ | ⟨c1, c2, c3, c4, hc⟩ | ⟨c1, c2, c3, c4, hc⟩ | ⟨c1, c2, c3, hc⟩ | ⟨c1, c2, c3, hc⟩ | ⟨c1, c2, hc⟩
          all_goals first
            | (have hct : corn s A B = true := hc
               skip
               have HNO := Lib.hid (show ¬ Hit s x y A B from fun h => by obtain ⟨h1, h2, h3⟩ := h; rw [hc] at h1; first | (cases h1; done) | (unfold Near at h2 h3; omega))
               clear hc
               go_wp2_with fail
               refine ⟨⟨k + 1, by omega, by rw [Int.natCast_succ], Lib.hid ?_, Lib.hid (HX.out.drewN _)⟩, by simp [intOf]; omega⟩
               intro i' k' hi' hk' hor
               by_cases heq : i' = i ∧ k' = k
               · obtain ⟨rfl, rfl⟩ := heq
                 rw [← HA.out, ← HB2.out]
                 exact HNO.out
               · exact HM.out i' k' hi' hk' (by omega)
               done)
            | (rcases (show (x < A - 2) ∨ (A - 2 ≤ x ∧ A + 2 < x) ∨ (A - 2 ≤ x ∧ x ≤ A + 2 ∧ y < B - 2) ∨ (A - 2 ≤ x ∧ x ≤ A + 2 ∧ B - 2 ≤ y ∧ B + 2 < y) ∨ (A - 2 ≤ x ∧ x ≤ A + 2 ∧ B - 2 ≤ y ∧ y ≤ B + 2) from by omega) with d1 | ⟨d1, d2⟩ | ⟨d1, d2, d3⟩ | ⟨d1, d2, d3, d4⟩ | ⟨d1, d2, d3, d4⟩
               · skip
                 have HNO := Lib.hid (show ¬ Hit s x y A B from fun h => by obtain ⟨h1, h2, h3⟩ := h; rw [hc] at h1; first | (cases h1; done) | (unfold Near at h2 h3; omega))
                 clear hc
                 go_wp2_with fail
                 refine ⟨⟨k + 1, by omega, by rw [Int.natCast_succ], Lib.hid ?_, Lib.hid (HX.out.drewN _)⟩, by simp [intOf]; omega⟩
                 intro i' k' hi' hk' hor
                 by_cases heq : i' = i ∧ k' = k
                 · obtain ⟨rfl, rfl⟩ := heq
                   rw [← HA.out, ← HB2.out]
                   exact HNO.out
                 · exact HM.out i' k' hi' hk' (by omega)
               · skip
                 have HNO := Lib.hid (show ¬ Hit s x y A B from fun h => by obtain ⟨h1, h2, h3⟩ := h; rw [hc] at h1; first | (cases h1; done) | (unfold Near at h2 h3; omega))
                 clear hc
                 go_wp2_with fail
                 refine ⟨⟨k + 1, by omega, by rw [Int.natCast_succ], Lib.hid ?_, Lib.hid (HX.out.drewN _)⟩, by simp [intOf]; omega⟩
                 intro i' k' hi' hk' hor
                 by_cases heq : i' = i ∧ k' = k
                 · obtain ⟨rfl, rfl⟩ := heq
                   rw [← HA.out, ← HB2.out]
                   exact HNO.out
                 · exact HM.out i' k' hi' hk' (by omega)
               · skip
                 have HNO := Lib.hid (show ¬ Hit s x y A B from fun h => by obtain ⟨h1, h2, h3⟩ := h; rw [hc] at h1; first | (cases h1; done) | (unfold Near at h2 h3; omega))
                 clear hc
                 go_wp2_with fail
                 refine ⟨⟨k + 1, by omega, by rw [Int.natCast_succ], Lib.hid ?_, Lib.hid (HX.out.drewN _)⟩, by simp [intOf]; omega⟩
                 intro i' k' hi' hk' hor
                 by_cases heq : i' = i ∧ k' = k
                 · obtain ⟨rfl, rfl⟩ := heq
                   rw [← HA.out, ← HB2.out]
                   exact HNO.out
                 · exact HM.out i' k' hi' hk' (by omega)
               · skip
                 have HNO := Lib.hid (show ¬ Hit s x y A B from fun h => by obtain ⟨h1, h2, h3⟩ := h; rw [hc] at h1; first | (cases h1; done) | (unfold Near at h2 h3; omega))
                 clear hc
                 go_wp2_with fail
                 refine ⟨⟨k + 1, by omega, by rw [Int.natCast_succ], Lib.hid ?_, Lib.hid (HX.out.drewN _)⟩, by simp [intOf]; omega⟩
                 intro i' k' hi' hk' hor
                 by_cases heq : i' = i ∧ k' = k
                 · obtain ⟨rfl, rfl⟩ := heq
                   rw [← HA.out, ← HB2.out]
                   exact HNO.out
                 · exact HM.out i' k' hi' hk' (by omega)
               · have HHR := Lib.hid (HH.out (by unfold Hit Near; exact ⟨hc, by omega, by omega⟩))
                 clear hc
                 go_wp2_with fail
                 go_ret3
                 obtain ⟨rfl, rfl, rfl⟩ : r1 = A ∧ r2 = B ∧ r3 = true := by have := HHR.out; simpa using this
                 exact ⟨rfl, HX.out.drewN _⟩)
        · have HO2 : Hid (∀ i' k' (hi : i' < l.length) (hk : k' < l.length), i' < i + 1 → ¬ Hit s x y l[i'] l[k']) := by
            intro i' k' hi' hk' h
            refine HM.out i' k' hi' hk' ?_
            have := HN.out
            omega
          go_wp2_with fail
          exact ⟨⟨i + 1, by omega, by rw [Int.natCast_succ], HO2, HX⟩, by simp [intOf]; omega⟩
    · have HNN := Lib.hid (HNONE.out (fun i' k' hi' hk' => HO.out i' k' hi' hk' (by have := HN.out; omega)))
      go_wp2_with fail
      go_ret3
      obtain ⟨rfl, rfl, rfl⟩ : r1 = 0 ∧ r2 = 0 ∧ r3 = false := by have := HNN.out; simpa using this
      exact ⟨rfl, HXO.out⟩

end Go.Proofs.Ytjkpdhcnklgfbaa
