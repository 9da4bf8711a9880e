/-
  Plain: the two codes of format and version information: their distances, and the search.
  No program; conditions stand in each lemma.
-/
import Derived.Test.YtjkpdhcnklgfbaaCodePlain
import Derived.Test.YtjkpdhcnklgfbaaPop
namespace Go.Bch
open Go

def mwp (g s : Nat) : Nat → Nat
  | 0 => s
  | n + 1 => min (mwp g s n) (pop (cw (n + 1) g))
theorem mwp_eq (g s : Nat) : ∀ n, (∀ v, v ≤ n → cw v g < 4294967296) → mw g s n = mwp g s n
  | 0, _ => rfl
  | n + 1, h => by
    unfold mw mwp
    rw [mwp_eq g s n (fun v hv => h v (by omega)), pop_eq _ (h (n + 1) (Nat.le_refl _))]
theorem cw_lt32 (v g : Nat) (hv : v < 4096) (hg1 : 3 ≤ g) (hg2 : g < 524288) : cw v g < 1073741824 := by
  have hb := deg_bd g hg1 hg2
  have := cw_lt g v 12 hg1 hv (by omega)
  have h3 := pow2_le (12 + g.log2) 30 (by omega)
  exact Nat.lt_of_lt_of_le this h3
theorem dist_format : dist 5 1335 = 7 := by
  show mw 1335 31 31 = 7
  rw [mwp_eq _ _ _ (fun v hv => Nat.lt_trans (cw_lt32 v 1335 (by omega) (by decide) (by decide)) (by decide))]
  decide +kernel
theorem dist_version : dist 6 7973 = 8 := by
  show mw 7973 31 63 = 8
  rw [mwp_eq _ _ _ (fun v hv => Nat.lt_trans (cw_lt32 v 7973 (by omega) (by decide) (by decide)) (by decide))]
  decide +kernel

def lev : Nat → Int
  | 0 => 2
  | 1 => 1
  | 2 => 4
  | _ => 3
/-- What the level's bits are. -/
def bl : Nat → Nat
  | 1 => 1
  | 2 => 0
  | 3 => 3
  | _ => 2

def pfN (x : Nat) : Int × Int × Int × Int :=
  match find 1335 (x ^^^ 21522) 3 32 0 with
  | none => (0, 0, 0, 21)
  | some v => (lev (v / 8), (v % 8 : Nat), wt (cw v 1335 ^^^ (x ^^^ 21522)), 0)
def pvN (x : Nat) : Int × Int × Int :=
  match find 7973 x 3 64 0 with
  | none => (0, 0, 21)
  | some v => if v < 7 ∨ 40 < v then (0, 0, 14) else ((v : Int), wt (cw v 7973 ^^^ x), 0)

theorem decN_f (x : Nat) : decN x 5 1335 = match find 1335 x 3 32 0 with | none => (0, 0, 17) | some v => ((v : Int), (wt (cw v 1335 ^^^ x) : Int), 0) := by
  unfold decN; rw [dist_format]; rfl
theorem decN_v (x : Nat) : decN x 6 7973 = match find 7973 x 3 64 0 with | none => (0, 0, 17) | some v => ((v : Int), (wt (cw v 7973 ^^^ x) : Int), 0) := by
  unfold decN; rw [dist_version]; rfl

theorem find_none (g word cap : Nat) : ∀ n i, (∀ u, i ≤ u → u < i + n → cap < wt (cw u g ^^^ word)) → find g word cap n i = none
  | 0, _, _ => rfl
  | n + 1, i, h => by
    unfold find
    rw [if_neg (by have := h i (Nat.le_refl _) (by omega); omega)]
    exact find_none g word cap n (i + 1) (fun u a b => h u (by omega) (by omega))

theorem find_f (x v : Nat) (hv : v < 32) (h : wt (cw v 1335 ^^^ x) ≤ 3) : find 1335 x 3 32 0 = some v := by
  refine find_at 1335 x 3 v h 32 0 (by omega) (by omega) ?_
  intro u _ hu hc
  exact near_one 5 1335 x 3 u v (by rw [dist_format]; decide) (by omega) (by omega) hc h
theorem find_v (x v : Nat) (hv : v < 64) (h : wt (cw v 7973 ^^^ x) ≤ 3) : find 7973 x 3 64 0 = some v := by
  refine find_at 7973 x 3 v h 64 0 (by omega) (by omega) ?_
  intro u _ hu hc
  exact near_one 6 7973 x 3 u v (by rw [dist_version]; decide) (by omega) (by omega) hc h

theorem bl_lt (l : Nat) : bl l < 4 := by unfold bl; split <;> decide
theorem lev_bl (l : Nat) (h1 : 1 ≤ l) (h2 : l ≤ 4) : lev (bl l) = l := by
  obtain rfl | rfl | rfl | rfl : l = 1 ∨ l = 2 ∨ l = 3 ∨ l = 4 := by omega
  all_goals rfl

theorem pfN_yes (x l m : Nat) (h1 : 1 ≤ l) (h2 : l ≤ 4) (hm : m < 8) (h : wt (cw (8 * bl l + m) 1335 ^^^ (x ^^^ 21522)) ≤ 3) :
    pfN x = ((l : Int), (m : Int), (wt (cw (8 * bl l + m) 1335 ^^^ (x ^^^ 21522)) : Int), 0) := by
  have := bl_lt l
  unfold pfN
  rw [find_f _ _ (by omega) h]
  simp only []
  rw [show (8 * bl l + m) / 8 = bl l by omega, show (8 * bl l + m) % 8 = m by omega, lev_bl l h1 h2]
theorem pfN_no (x : Nat) (h : ∀ l m, 1 ≤ l → l ≤ 4 → m < 8 → 3 < wt (cw (8 * bl l + m) 1335 ^^^ (x ^^^ 21522))) : pfN x = (0, 0, 0, 21) := by
  unfold pfN
  rw [find_none]
  intro u _ hu
  obtain ⟨l, h1, h2, hl⟩ : ∃ l, 1 ≤ l ∧ l ≤ 4 ∧ bl l = u / 8 := by
    obtain h | h | h | h : u / 8 = 0 ∨ u / 8 = 1 ∨ u / 8 = 2 ∨ u / 8 = 3 := by omega
    · exact ⟨2, by omega, by omega, h.symm⟩
    · exact ⟨1, by omega, by omega, h.symm⟩
    · exact ⟨4, by omega, by omega, h.symm⟩
    · exact ⟨3, by omega, by omega, h.symm⟩
  have := h l (u % 8) h1 h2 (by omega)
  rw [hl, show 8 * (u / 8) + u % 8 = u by omega] at this
  exact this
theorem pvN_no (x : Nat) (h : ∀ v, v < 64 → 3 < wt (cw v 7973 ^^^ x)) : pvN x = (0, 0, 21) := by
  unfold pvN
  rw [find_none]
  intro u _ hu
  exact h u (by omega)
theorem pvN_yes (x v : Nat) (hv : v < 64) (h : wt (cw v 7973 ^^^ x) ≤ 3) : pvN x = if v < 7 ∨ 40 < v then (0, 0, 14) else ((v : Int), (wt (cw v 7973 ^^^ x) : Int), 0) := by
  unfold pvN
  rw [find_v _ _ hv h]

/-- How the package reckons the same. -/
theorem pfN_dec (x : Nat) : (decN (x ^^^ 21522) 5 1335 = (0, 0, 17) ∧ pfN x = (0, 0, 0, 21)) ∨
    ∃ v n : Nat, v < 32 ∧ n ≤ 3 ∧ decN (x ^^^ 21522) 5 1335 = ((v : Int), (n : Int), 0) ∧ pfN x = (lev (v / 8), ((v % 8 : Nat) : Int), (n : Int), 0) := by
  rw [decN_f]
  unfold pfN
  cases e : find 1335 (x ^^^ 21522) 3 32 0 with
  | none => exact Or.inl ⟨rfl, rfl⟩
  | some v =>
    have := find_some _ _ _ _ _ _ e
    exact Or.inr ⟨v, _, by omega, this.2.2, rfl, rfl⟩
theorem pvN_dec (x : Nat) : (decN x 6 7973 = (0, 0, 17) ∧ pvN x = (0, 0, 21)) ∨
    ∃ v n : Nat, v < 64 ∧ n ≤ 3 ∧ decN x 6 7973 = ((v : Int), (n : Int), 0) ∧ pvN x = if v < 7 ∨ 40 < v then (0, 0, 14) else ((v : Int), (n : Int), 0) := by
  rw [decN_v]
  unfold pvN
  cases e : find 7973 x 3 64 0 with
  | none => exact Or.inl ⟨rfl, rfl⟩
  | some v =>
    have := find_some _ _ _ _ _ _ e
    exact Or.inr ⟨v, _, by omega, this.2.2, rfl, rfl⟩

end Go.Bch
