/-
  Plain: a payload of one digit, or of one lower-case letter, over and over is one segment.
  No program; conditions stand in each lemma.
-/
import Derived.Test.YthebfpolijajgaaMinPlain
namespace Go.Proofs.Ythebfpolijajgaa
open Go.RowKit Go.Bs Go.Mode

theorem plan_is (k : Nat) (q : List UInt8) (h : q ≠ []) (x : Pl) (hx : IsCand k q x) (hl : ∀ d, IsCand k q d → ¬ d.lt x) : plan k q = x :=
  (plan_unique k q x zeroP h (Or.inr ⟨hx, hl⟩)).symm

theorem fits_x (m : Int) (hm : okMode m = true) : fitsB m 120 = true → m = 4 := by
  rcases okMode_three hm with rfl | rfl | rfl
  · intro h; exact absurd h (by decide)
  · intro h; exact absurd h (by decide +kernel)
  · intro _; rfl

/-- Letters. -/
theorem plan_letters (k : Nat) : ∀ n, 1 ≤ n → n ≤ 255 → plan k (List.replicate n 120) = ⟨segB 4 k n, 1, n, 4⟩ := by
  intro n
  induction n using Nat.strongRecOn with
  | ind n ih =>
    intro h1 h255
    have hp := Go.Mode.pow_cnt 4 k
    refine plan_is k _ (by intro e; have := congrArg List.length e; simp at this; omega) _ ⟨4, n, rfl, h1, by simp, by omega, fun c _ => rfl, ?_⟩ ?_
    · rw [List.drop_of_length_le (by simp), plan_nil]
      simp [candP, zeroP]
    · rintro d ⟨m, j, hm, j1, j2, j3, j4, rfl⟩
      simp at j2
      have hf := j4 120 (by rw [List.take_replicate]; simp; omega)
      obtain rfl := fits_x m hm hf
      rw [List.drop_replicate]
      by_cases hjn : j = n
      · subst hjn
        rw [Nat.sub_self]
        simp [plan_nil, candP, zeroP, Pl.lt]
      · rw [ih (n - j) (by omega) (by omega) (by omega)]
        simp only [Pl.lt, candP, segB, dsize]
        simp
        omega

theorem dsize_le (m : Int) (hm : okMode m = true) (j : Nat) : dsize 1 j ≤ dsize m j := by
  rcases okMode_three hm with rfl | rfl | rfl
  · exact Nat.le_refl _
  · simp [dsize]; split <;> (try split) <;> omega
  · simp [dsize]; split <;> (try split) <;> omega
theorem dsize_sub (a b : Nat) : dsize 1 (a + b) ≤ dsize 1 a + dsize 1 b := by
  simp only [dsize, if_true]
  repeat' split
  all_goals omega

/-- Digits. -/
theorem plan_digits (k : Nat) (hk : k ≤ 2) : ∀ n, 1 ≤ n → n ≤ 255 → plan k (List.replicate n 52) = ⟨segB 1 k n, 1, n, 1⟩ := by
  intro n
  induction n using Nat.strongRecOn with
  | ind n ih =>
    intro h1 h255
    have hp := Go.Mode.pow_cnt 1 k
    have hc1 := cnt_pos 1 k
    have hd4 : dsize 1 n ≤ 4 * n := by simp only [dsize, if_true]; split <;> (try split) <;> omega
    refine plan_is k _ (by intro e; have := congrArg List.length e; simp at this; omega) _ ⟨1, n, rfl, h1, by simp, by omega, fun c hc => by rw [List.take_replicate, List.mem_replicate] at hc; rw [hc.2]; decide, ?_⟩ ?_
    · rw [List.drop_of_length_le (by simp), plan_nil]
      simp [candP, zeroP]
    · rintro d ⟨m, j, hm, j1, j2, j3, j4, rfl⟩
      simp at j2
      rw [List.drop_replicate]
      by_cases hjn : j = n
      · subst hjn
        rw [Nat.sub_self]
        have e0 : List.replicate 0 (52 : UInt8) = [] := rfl
        rw [e0, plan_nil]
        rcases okMode_three hm with rfl | rfl | rfl
        · simp [candP, zeroP, Pl.lt]
        · have hk' : k = 0 ∨ k = 1 ∨ k = 2 := by omega
          simp only [Pl.lt, candP, zeroP, segB]
          have : dsize 1 j + 2 ≤ dsize 2 j := by
            simp [dsize]
            repeat' split
            all_goals omega
          rcases hk' with rfl | rfl | rfl <;> simp [cntB] <;> omega
        · have hk' : k = 0 ∨ k = 1 ∨ k = 2 := by omega
          simp only [Pl.lt, candP, zeroP, segB]
          have : dsize 4 j = 8 * j := by simp [dsize]
          rcases hk' with rfl | rfl | rfl <;> simp [cntB] <;> omega
      · rw [ih (n - j) (by omega) (by omega) (by omega)]
        have a1 := dsize_le m hm j
        have a2 := dsize_sub j (n - j)
        rw [Nat.add_sub_cancel' j2] at a2
        have a3 := cnt_pos m k
        simp only [Pl.lt, candP, segB]
        omega

theorem best_one (k : Nat) (q : List UInt8) (m : Int) (b : Nat) (h : q ≠ []) (hp : plan k q = ⟨b, 1, q.length, m⟩) : bestL k q = [(m, q)] := by
  rw [bestL_cons k q h, hp]
  simp [bestL_nil]

end Go.Proofs.Ythebfpolijajgaa
