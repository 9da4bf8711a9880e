/-
  Plain: the best segments are valid, and have the fewest bits; the number of bits grows with the payload and is subadditive; lengths of encoded segments.
  No program; conditions stand in each lemma.
-/
import Derived.Test.YthebfpolijajgaaBestC
import Derived.Test.YthebfpolijajgaaExA
namespace Go.Proofs.Ythebfpolijajgaa
open Go.RowKit Go.Bs Go.Mode

theorem length_encS (k : Nat) (q : SegD) (h : okMode q.1 = true) : (encS k q).length = segB q.1 k q.2.length := by
  unfold encS segB; simp only [List.length_append, length_lowBits, length_encD q.1 h q.2.length q.2 rfl]; omega
theorem length_encs (k : Nat) (l : List SegD) (h : ∀ q ∈ l, okMode q.1 = true) : (l.flatMap (encS k)).length = total k l := by
  induction l using snoc_ind with
  | h0 => rfl
  | h1 l q ih => rw [List.flatMap_append, List.length_append, total_snoc, ih (fun x hx => h x (by simp [hx]))]; simp [length_encS k q (h q (by simp))]
theorem enc_len (l : List SegD) (c : Int) : (encRes l c).1.length ≤ 1048576 := by
  obtain ⟨T, E, hTE⟩ : ∃ T E, bitsRes l c = (T, E) := ⟨_, _, rfl⟩
  unfold encRes
  rw [hTE]
  by_cases hE : E = 0
  · subst hE
    obtain ⟨k, rfl, hk, hok, h4, hlen, hfit, htot, rfl⟩ := bits_inv hTE
    simp only [if_true, Int.toNat_natCast]
    rw [length_encs k l (fun q hq => (List.all_eq_true.1 hok) q hq)]
    exact htot
  · simp [hE]

/-- A segment that Bits takes. -/
def SegOk (k : Nat) (q : SegD) : Prop := okMode q.1 = true ∧ q.2.length < 2 ^ cntB q.1 k ∧ ∀ c ∈ q.2, fitsB q.1 c = true
theorem bits_ok (k : Nat) (hk : k ≤ 2) (l : List SegD) (h4 : l.length ≤ 4096) (h : ∀ q ∈ l, SegOk k q) (ht : total k l ≤ 1048576) : bitsRes l k = ((total k l : Int), 0) := by
  unfold bitsRes
  rw [if_neg (by omega), if_neg, if_neg (by omega), if_neg, if_neg, if_neg]
  · simp
  · simp; exact ht
  · rw [Bool.not_eq_false, List.all_eq_true]; exact fun q hq => List.all_eq_true.2 (h q hq).2.2
  · rw [Bool.not_eq_false, List.all_eq_true]; exact fun q hq => by simpa using (h q hq).2.1
  · rw [Bool.not_eq_false, List.all_eq_true]; exact fun q hq => (h q hq).1
theorem bits_from {l : List SegD} {c T : Int} (h : bitsRes l c = (T, 0)) : ∃ k : Nat, c = k ∧ k ≤ 2 ∧ l.length ≤ 4096 ∧ (∀ q ∈ l, SegOk k q) ∧ total k l ≤ 1048576 ∧ T = total k l := by
  obtain ⟨k, rfl, hk, hok, h4, hlen, hfit, htot, rfl⟩ := bits_inv h
  refine ⟨k, rfl, hk, h4, fun q hq => ⟨(List.all_eq_true.1 hok) q hq, by simpa using (List.all_eq_true.1 hlen) q hq, ?_⟩, htot, rfl⟩
  have := (List.all_eq_true.1 hfit) q hq
  exact fun c hc => (List.all_eq_true.1 this) c hc

theorem total_cons (k : Nat) (q : SegD) (l : List SegD) : total k (q :: l) = segB q.1 k q.2.length + total k l := by
  have key : ∀ (l : List SegD), total k (q :: l) = segB q.1 k q.2.length + total k l := by
    intro l
    induction l using snoc_ind with
    | h0 => simp [total]
    | h1 l p ih => rw [← List.cons_append, total_snoc, total_snoc, ih]; omega
  exact key l

theorem le_of_cand {k : Nat} {q : List UInt8} {m : Int} {n : Nat} (hm : okMode m = true) (h1 : 1 ≤ n) (h2 : n ≤ q.length) (h3 : n < 2 ^ cntB m k) (h4 : ∀ c ∈ q.take n, fitsB m c = true) : (plan k q).bits ≤ segB m k n + (plan k (q.drop n)).bits := by
  have hq : q ≠ [] := by intro e; subst e; simp at h2; omega
  have := (plan_least k q hq).2 _ ⟨m, n, hm, h1, h2, h3, h4, rfl⟩
  simp only [Pl.lt, candP] at this
  omega
theorem plan_cases (k : Nat) (q : List UInt8) (h : q ≠ []) : ∃ m n, okMode m = true ∧ 1 ≤ n ∧ n ≤ q.length ∧ n < 2 ^ cntB m k ∧ (∀ c ∈ q.take n, fitsB m c = true) ∧ (plan k q).mode = m ∧ (plan k q).len = n ∧ (plan k q).bits = segB m k n + (plan k (q.drop n)).bits := by
  obtain ⟨m, n, hm, h1, h2, h3, h4, h5⟩ := (plan_least k q h).1
  exact ⟨m, n, hm, h1, h2, h3, h4, by rw [h5]; rfl, by rw [h5]; rfl, by rw [h5]; rfl⟩

/-- The best segments are valid, not empty, and have the plan's bits. -/
theorem best_valid (k : Nat) : ∀ (n : Nat) (q : List UInt8), q.length ≤ n → (∀ s ∈ bestL k q, SegOk k s ∧ s.2 ≠ []) ∧ joinL (bestL k q) = q ∧ total k (bestL k q) = (plan k q).bits := by
  intro n
  induction n with
  | zero =>
    intro q h
    obtain rfl : q = [] := List.eq_nil_of_length_eq_zero (by omega)
    simp [bestL_nil, joinL, total, plan_nil, zeroP]
  | succ n ih =>
    intro q h
    by_cases hq : q = []
    · subst hq
      simp [bestL_nil, joinL, total, plan_nil, zeroP]
    · obtain ⟨m, j, hm, h1, h2, h3, h4, h5, h6, h7⟩ := plan_cases k q hq
      obtain ⟨i1, i2, i3⟩ := ih (q.drop j) (by simp; omega)
      rw [bestL_cons k q hq, h5, h6]
      have hl : (q.take j).length = j := by simp; omega
      refine ⟨?_, ?_, ?_⟩
      · intro s hs
        rcases List.mem_cons.1 hs with rfl | hs
        · exact ⟨⟨hm, by rw [hl]; exact h3, h4⟩, fun e => by have e' : q.take j = [] := e; rw [e'] at hl; simp at hl; omega⟩
        · exact i1 s hs
      · show q.take j ++ joinL (bestL k (q.drop j)) = q
        rw [i2, List.take_append_drop]
      · rw [total_cons, i3, h7]
        simp only [hl]

/-- No list of segments has fewer bits. -/
theorem best_min (k : Nat) : ∀ (l : List SegD), (∀ s ∈ l, SegOk k s) → (plan k (joinL l)).bits ≤ total k l := by
  intro l
  induction l with
  | nil => intro _; simp [joinL, plan_nil, zeroP]
  | cons s l ih =>
    intro h
    have i1 := ih (fun x hx => h x (List.mem_cons_of_mem _ hx))
    obtain ⟨h1, h2, h3⟩ := h s (by simp)
    rw [total_cons]
    have hj : joinL (s :: l) = s.2 ++ joinL l := rfl
    rw [hj]
    by_cases he : s.2 = []
    · rw [he, List.nil_append]
      omega
    · have hp : 0 < s.2.length := List.length_pos_iff.2 he
      have := le_of_cand (k := k) (q := s.2 ++ joinL l) (n := s.2.length) h1 hp (by simp) h2 (by rw [List.take_left]; exact h3)
      rw [List.drop_left] at this
      omega

theorem dsize_mono (m : Int) (a b : Nat) (h : a ≤ b) : dsize m a ≤ dsize m b := by
  unfold dsize
  split
  · have h1 : a / 3 ≤ b / 3 := Nat.div_le_div_right h
    by_cases e : a / 3 = b / 3
    · have : a % 3 ≤ b % 3 := by omega
      split <;> split <;> (try split) <;> (try split) <;> omega
    · split <;> split <;> (try split) <;> (try split) <;> omega
  · split
    · omega
    · omega

/-- A beginning does not need more bits. -/
theorem plan_grows (k : Nat) : ∀ (n : Nat) (q r : List UInt8), q.length ≤ n → (plan k q).bits ≤ (plan k (q ++ r)).bits := by
  intro n
  induction n with
  | zero =>
    intro q r h
    obtain rfl : q = [] := List.eq_nil_of_length_eq_zero (by omega)
    simp [plan_nil, zeroP]
  | succ n ih =>
    intro q r h
    by_cases hq : q = []
    · subst hq
      simp [plan_nil, zeroP]
    · have hp : 0 < q.length := List.length_pos_iff.2 hq
      obtain ⟨m, j, hm, h1, h2, h3, h4, _, _, h7⟩ := plan_cases k (q ++ r) (by simp [hq])
      rw [h7]
      by_cases hj : j ≤ q.length
      · rw [List.take_append_of_le_length hj] at h4
        have a1 := le_of_cand (k := k) (q := q) hm h1 hj h3 h4
        have a2 := ih (q.drop j) r (by simp; omega)
        rw [List.drop_append_of_le_length hj]
        omega
      · have a1 := le_of_cand (k := k) (q := q) (n := q.length) hm (by omega) (Nat.le_refl _) (by omega) (fun c hc => h4 c (by
          rw [List.take_length] at hc
          rw [List.take_append]
          exact List.mem_append.2 (Or.inl (by rw [List.take_of_length_le (by omega)]; exact hc))))
        rw [List.drop_length, plan_nil] at a1
        have a2 := dsize_mono m q.length j (by omega)
        simp only [zeroP, segB] at a1 ⊢
        omega

theorem plan_sum (k : Nat) : ∀ (n : Nat) (q r : List UInt8), q.length ≤ n → (plan k (q ++ r)).bits ≤ (plan k q).bits + (plan k r).bits := by
  intro n
  induction n with
  | zero =>
    intro q r h
    obtain rfl : q = [] := List.eq_nil_of_length_eq_zero (by omega)
    simp [plan_nil, zeroP]
  | succ n ih =>
    intro q r h
    by_cases hq : q = []
    · subst hq
      simp [plan_nil, zeroP]
    · obtain ⟨m, j, hm, h1, h2, h3, h4, _, _, h7⟩ := plan_cases k q hq
      have a1 := le_of_cand (k := k) (q := q ++ r) hm h1 (by simp; omega) h3 (by rw [List.take_append_of_le_length h2]; exact h4)
      rw [List.drop_append_of_le_length h2] at a1
      have a2 := ih (q.drop j) r (by simp; omega)
      omega

end Go.Proofs.Ythebfpolijajgaa
