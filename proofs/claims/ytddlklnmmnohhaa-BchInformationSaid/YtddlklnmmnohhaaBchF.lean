/-
  Contracts of Encode and Decode, the package's and the reference's.
  Conditions: none for the last of each; the numbers are small in the others.
-/
import Derived.Test.YtddlklnmmnohhaaBchE
namespace Go.Proofs.Ytddlklnmmnohhaa
open Go.RowKit Go.Bs Go.Bch

def encRes (v k g : Int) : Int × Int := if valP k g then if v < 0 ∨ (pw k.toNat : Int) ≤ v then (0, 3) else (cw v.toNat g.toNat, 0) else (0, 1)
theorem encRes_1 {v k g : Int} (h : ¬ valP k g) : encRes v k g = (0, 1) := by unfold encRes; rw [if_neg h]
theorem encRes_2 {v k g : Int} (h : valP k g) (h2 : v < 0 ∨ (pw k.toNat : Int) ≤ v) : encRes v k g = (0, 3) := by unfold encRes; rw [if_pos h, if_pos h2]
theorem encRes_3 {v k g : Int} (h : valP k g) (h2 : ¬ (v < 0 ∨ (pw k.toNat : Int) ≤ v)) : encRes v k g = ((cw v.toNat g.toNat : Int), 0) := by unfold encRes; rw [if_pos h, if_neg h2]

def decRes (x k g : Int) : Int × Int × Int := if valP k g then if x < 0 ∨ (pw (k.toNat + g.toNat.log2) : Int) ≤ x then (0, 0, 3) else decN x.toNat k.toNat g.toNat else (0, 0, 1)
theorem decRes_1 {v k g : Int} (h : ¬ valP k g) : decRes v k g = (0, 0, 1) := by unfold decRes; rw [if_neg h]
theorem decRes_2 {v k g : Int} (h : valP k g) (h2 : v < 0 ∨ (pw (k.toNat + g.toNat.log2) : Int) ≤ v) : decRes v k g = (0, 0, 3) := by unfold decRes; rw [if_pos h, if_pos h2]
theorem decRes_3 {v k g : Int} (h : valP k g) (h2 : ¬ (v < 0 ∨ (pw (k.toNat + g.toNat.log2) : Int) ≤ v)) : decRes v k g = decN v.toNat k.toNat g.toNat := by unfold decRes; rw [if_pos h, if_neg h2]

/-- What the search has still to find. -/
def decFrom (word g cap n i : Nat) : Int × Int × Int :=
  match find g word cap n i with
  | none => (0, 0, 17)
  | some v => (v, wt (cw v g ^^^ word), 0)
theorem decFrom_zero (word g cap i : Nat) : decFrom word g cap 0 i = (0, 0, 17) := rfl
theorem decFrom_yes (word g cap n i : Nat) (h : wt (cw i g ^^^ word) ≤ cap) : decFrom word g cap (n + 1) i = ((i : Int), (wt (cw i g ^^^ word) : Int), 0) := by
  unfold decFrom find; rw [if_pos h]
theorem decFrom_no (word g cap n i : Nat) (h : ¬ wt (cw i g ^^^ word) ≤ cap) : decFrom word g cap (n + 1) i = decFrom word g cap n (i + 1) := by
  unfold decFrom; rw [find, if_neg h]
theorem decN_eq (word k g : Nat) : decN word k g = decFrom word g ((dist k g - 1) / 2) (pw k) 0 := rfl

set_option maxRecDepth 20000 in
set_option maxHeartbeats 400000 in
theorem encode_any (v k g : Int) (w : World) :
    Calls Try.prog 11 #[.int .i64 v, .int .i64 k, .int .i64 g] w fun e w' => e = .returned (two (encRes v k g)) ∧ w = w' := by
  by_cases hv : valP k g
  · obtain ⟨k', g', rfl, rfl⟩ := nats hv
    have HV := Lib.hid hv
    obtain ⟨h1, h2, h3, h4, h5⟩ := hv
    clear h5
    have hp := one_shl k' (by omega)
    have hp12 := pw_le k' 12 (by omega)
    have h12 : pw 12 = 4096 := rfl
    have HE2 : Hid (v < 0 ∨ (pw k' : Int) ≤ v → encRes v k' g' = (0, 3)) := fun h => encRes_2 HV.out h
    have HE3 : Hid (¬ (v < 0 ∨ (pw k' : Int) ≤ v) → encRes v k' g' = ((cw v.toNat g' : Int), 0)) := fun h => encRes_3 HV.out h
    obtain ⟨P, hP⟩ : ∃ P, P = pw k' := ⟨_, rfl⟩
    have HP := Lib.hid hP
    rw [← hP] at hp hp12 HE2 HE3
    rw [h12] at hp12
    clear hP h12
    by_cases hn : v < 0
    · rw [HE2.out (Or.inl hn)]
      go_enter Try.func11, Try.ntmps11
      go_wp2_with fail
      refine (valid_yes _ _ _ HV.out).mono ?_
      rintro e w' ⟨rfl, rfl⟩
      go_wp2_with fail
      go_ret2
      exact ⟨rfl, rfl⟩
    obtain ⟨v', rfl⟩ : ∃ v' : Nat, v = v' := ⟨v.toNat, by omega⟩
    clear hn
    by_cases hl : P ≤ v'
    · rw [HE2.out (Or.inr (by omega))]
      go_enter Try.func11, Try.ntmps11
      go_wp2_with fail
      refine (valid_yes _ _ _ HV.out).mono ?_
      rintro e w' ⟨rfl, rfl⟩
      go_wp2_with fail
      go_ret2
      exact ⟨rfl, rfl⟩
    · rw [HE3.out (by omega)]
      go_enter Try.func11, Try.ntmps11
      go_wp2_with fail
      refine (valid_yes _ _ _ HV.out).mono ?_
      rintro e w' ⟨rfl, rfl⟩
      go_wp2_with fail
      refine (codeword_any v' g' _ (by omega) (by omega) (by omega)).mono ?_
      rintro e w' ⟨rfl, rfl⟩
      go_wp2_with fail
      go_ret2
      exact ⟨rfl, rfl⟩
  · rw [encRes_1 hv]
    go_enter Try.func11, Try.ntmps11
    go_wp2_with fail
    refine (valid_no k g _ hv).mono ?_
    rintro e w' ⟨rfl, rfl⟩
    go_wp2_with fail
    go_ret2
    exact ⟨rfl, rfl⟩

set_option maxRecDepth 20000 in
set_option maxHeartbeats 400000 in
theorem rencode_any (v k g : Int) (w : World) :
    Calls Try.prog 12 #[.int .i64 v, .int .i64 k, .int .i64 g] w fun e w' => e = .returned (two (encRes v k g)) ∧ w = w' := by
  by_cases hv : valP k g
  · obtain ⟨k', g', rfl, rfl⟩ := nats hv
    have HV := Lib.hid hv
    obtain ⟨h1, h2, h3, h4, h5⟩ := hv
    clear h5
    have hp := one_shl k' (by omega)
    have hp12 := pw_le k' 12 (by omega)
    have h12 : pw 12 = 4096 := rfl
    have HE2 : Hid (v < 0 ∨ (pw k' : Int) ≤ v → encRes v k' g' = (0, 3)) := fun h => encRes_2 HV.out h
    have HE3 : Hid (¬ (v < 0 ∨ (pw k' : Int) ≤ v) → encRes v k' g' = ((cw v.toNat g' : Int), 0)) := fun h => encRes_3 HV.out h
    obtain ⟨P, hP⟩ : ∃ P, P = pw k' := ⟨_, rfl⟩
    have HP := Lib.hid hP
    rw [← hP] at hp hp12 HE2 HE3
    rw [h12] at hp12
    clear hP h12
    by_cases hn : v < 0
    · rw [HE2.out (Or.inl hn)]
      go_enter Try.func12, Try.ntmps12
      go_wp2_with fail
      refine (right_yes _ _ _ HV.out).mono ?_
      rintro e w' ⟨rfl, rfl⟩
      go_wp2_with fail
      go_ret2
      exact ⟨rfl, rfl⟩
    obtain ⟨v', rfl⟩ : ∃ v' : Nat, v = v' := ⟨v.toNat, by omega⟩
    clear hn
    by_cases hl : P ≤ v'
    · rw [HE2.out (Or.inr (by omega))]
      go_enter Try.func12, Try.ntmps12
      go_wp2_with fail
      refine (right_yes _ _ _ HV.out).mono ?_
      rintro e w' ⟨rfl, rfl⟩
      go_wp2_with fail
      refine (power_any k' _ (by omega)).mono ?_
      rw [← HP.out]
      rintro e w' ⟨rfl, rfl⟩
      go_wp2_with fail
      go_ret2
      exact ⟨rfl, rfl⟩
    · rw [HE3.out (by omega)]
      go_enter Try.func12, Try.ntmps12
      go_wp2_with fail
      refine (right_yes _ _ _ HV.out).mono ?_
      rintro e w' ⟨rfl, rfl⟩
      go_wp2_with fail
      refine (power_any k' _ (by omega)).mono ?_
      rw [← HP.out]
      rintro e w' ⟨rfl, rfl⟩
      go_wp2_with fail
      refine (rcodeword_any v' g' _ (by omega) (by omega) (by omega)).mono ?_
      rintro e w' ⟨rfl, rfl⟩
      go_wp2_with fail
      go_ret2
      exact ⟨rfl, rfl⟩
  · rw [encRes_1 hv]
    go_enter Try.func12, Try.ntmps12
    go_wp2_with fail
    refine (right_no k g _ hv).mono ?_
    rintro e w' ⟨rfl, rfl⟩
    go_wp2_with fail
    go_ret2
    exact ⟨rfl, rfl⟩

end Go.Proofs.Ytddlklnmmnohhaa
