/-
  Plain: the least weight of a code, and the search for the codeword near a word.
  No program; conditions stand in each lemma.
-/
import Derived.Test.YtjkpdhcnklgfbaaBchPlain
namespace Go.Bch
open Go

/-- The least of a start and the weights of the codewords of 1 .. n. -/
def mw (g s : Nat) : Nat → Nat
  | 0 => s
  | n + 1 => min (mw g s n) (wt (cw (n + 1) g))

theorem mw_start_le (g s : Nat) : ∀ n, mw g s n ≤ s
  | 0 => Nat.le_refl _
  | n + 1 => Nat.le_trans (Nat.min_le_left _ _) (mw_start_le g s n)

theorem mw_le (g s v : Nat) (h1 : 1 ≤ v) : ∀ n, v ≤ n → mw g s n ≤ wt (cw v g)
  | 0, h => by omega
  | n + 1, h => by
    by_cases e : v = n + 1
    · subst e; exact Nat.min_le_right _ _
    · exact Nat.le_trans (Nat.min_le_left _ _) (mw_le g s v h1 n (by omega))

theorem mw_same (g s t : Nat) : ∀ n, 1 ≤ n → (∀ v, 1 ≤ v → v ≤ n → wt (cw v g) ≤ s ∧ wt (cw v g) ≤ t) → mw g s n = mw g t n
  | 0, h, _ => by omega
  | n + 1, _, hv => by
    by_cases e : n = 0
    · subst e
      have := hv (0 + 1) (by omega) (by omega)
      simp only [mw]
      rw [Nat.min_eq_right this.1, Nat.min_eq_right this.2]
    · have := mw_same g s t n (by omega) (fun v a b => hv v a (by omega))
      simp only [mw, this]

theorem mw_pos (g s : Nat) (hs : 0 < s) : ∀ n, (∀ v, 1 ≤ v → v ≤ n → 0 < wt (cw v g)) → 0 < mw g s n
  | 0, _ => hs
  | n + 1, hv => by
    have h1 := mw_pos g s hs n (fun v a b => hv v a (by omega))
    have h2 := hv (n + 1) (by omega) (by omega)
    simp only [mw]
    omega

def dist (k g : Nat) : Nat := mw g 31 (2 ^ k - 1)

theorem dist_same (k g : Nat) (hk1 : 1 ≤ k) (hk : k ≤ 12) (hg1 : 3 ≤ g) (hg2 : g < 524288) : mw g (k + g.log2) (2 ^ k - 1) = dist k g := by
  have h2 := pow2_le 1 k hk1
  have hd := deg_bd g hg1 hg2
  refine mw_same g _ _ _ (by omega) ?_
  intro v h1 h
  have hl := wt_lt _ _ (cw_lt g v k hg1 (by omega) hk)
  omega

theorem dist_pos (k g : Nat) (hk : k ≤ 12) (hg1 : 3 ≤ g) : 0 < dist k g := by
  refine mw_pos g _ (by omega) _ ?_
  intro v h1 h
  exact wt_pos _ (cw_pos v g k hg1 (by omega) hk (by omega))

theorem dist_le (k g : Nat) : dist k g ≤ 31 := mw_start_le _ _ _

/-- Two words of less than the least weight's half are one. -/
theorem near_one (k g word cap u v : Nat) (hcap : 2 * cap < dist k g) (hu : u < 2 ^ k) (hv : v < 2 ^ k)
    (h1 : wt (cw u g ^^^ word) ≤ cap) (h2 : wt (cw v g ^^^ word) ≤ cap) : u = v := by
  by_cases e : u ^^^ v = 0
  · have h0 : u ^^^ v ^^^ v = 0 ^^^ v := by rw [e]
    rw [Nat.xor_assoc, Nat.xor_self, Nat.xor_zero, Nat.zero_xor] at h0
    exact h0
  · exfalso
    have hl : u ^^^ v < 2 ^ k := Nat.xor_lt_two_pow hu hv
    have h3 := mw_le g 31 (u ^^^ v) (by omega) (2 ^ k - 1) (by omega)
    have h4 := wt_xor (cw u g ^^^ word) (cw v g ^^^ word)
    have h5 : cw u g ^^^ word ^^^ (cw v g ^^^ word) = cw u g ^^^ cw v g := by
      rw [Nat.xor_assoc, Nat.xor_comm word, Nat.xor_assoc, Nat.xor_self, Nat.xor_zero]
    rw [h5, ← cw_xor] at h4
    unfold dist at hcap
    omega

/-- The first codeword near a word. -/
def find (g word cap : Nat) : Nat → Nat → Option Nat
  | 0, _ => none
  | n + 1, i => if wt (cw i g ^^^ word) ≤ cap then some i else find g word cap n (i + 1)

theorem find_some (g word cap v : Nat) : ∀ n i, find g word cap n i = some v → i ≤ v ∧ v < i + n ∧ wt (cw v g ^^^ word) ≤ cap
  | 0, _, h => by cases h
  | n + 1, i, h => by
    unfold find at h
    split at h
    · next hc => cases h; exact ⟨by omega, by omega, hc⟩
    · have := find_some g word cap v n (i + 1) h
      omega

theorem find_at (g word cap v : Nat) (hc : wt (cw v g ^^^ word) ≤ cap) : ∀ n i, i ≤ v → v < i + n → (∀ u, i ≤ u → u < i + n → wt (cw u g ^^^ word) ≤ cap → u = v) → find g word cap n i = some v
  | 0, i, h1, h2, _ => by omega
  | n + 1, i, h1, h2, hu => by
    unfold find
    split
    · next h => rw [hu i (by omega) (by omega) h]
    · next h =>
      have : i ≠ v := by intro e; subst e; exact h hc
      exact find_at g word cap v hc n (i + 1) (by omega) (by omega) (fun u a b c => hu u (by omega) (by omega) c)

/-- What the search returns. -/
def decN (word k g : Nat) : Int × Int × Int :=
  match find g word ((dist k g - 1) / 2) (2 ^ k) 0 with
  | none => (0, 0, 17)
  | some v => (v, wt (cw v g ^^^ word), 0)

theorem decN_at (word k g v : Nat) (hk : k ≤ 12) (hg1 : 3 ≤ g) (hv : v < 2 ^ k) (h : 2 * wt (cw v g ^^^ word) < dist k g) : decN word k g = ((v : Int), (wt (cw v g ^^^ word) : Int), 0) := by
  have hp := dist_pos k g hk hg1
  unfold decN
  rw [find_at g word ((dist k g - 1) / 2) v (by omega) (2 ^ k) 0 (by omega) (by omega)]
  intro u _ hu hc
  exact near_one k g word ((dist k g - 1) / 2) u v (by omega) (by omega) hv hc (by omega)

theorem decN_ok (word k g : Nat) (hk : k ≤ 12) (hg1 : 3 ≤ g) :
    decN word k g = (0, 0, 17) ∨ ∃ v, v < 2 ^ k ∧ 2 * wt (cw v g ^^^ word) < dist k g ∧ decN word k g = ((v : Int), (wt (cw v g ^^^ word) : Int), 0) := by
  have hp := dist_pos k g hk hg1
  unfold decN
  cases e : find g word ((dist k g - 1) / 2) (2 ^ k) 0 with
  | none => exact Or.inl rfl
  | some v =>
    have := find_some _ _ _ _ _ _ e
    exact Or.inr ⟨v, by omega, by omega, rfl⟩

end Go.Bch
