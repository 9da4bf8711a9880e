/-
  Plain: the purposes of the modules of QR codes, the function patterns, the path.
  No program; conditions stand in each lemma.
-/
import Derived.Test.YtjkpdhcnklgfbaaVerPlain
namespace Go.Lay
open Go.Qrv

/-- The alignment coordinate near to a number, and whether there is one. -/
def near1 : List Int → Int → Int × Bool
  | [], _ => (0, false)
  | a :: l, x => if -2 ≤ x - a ∧ x - a ≤ 2 then (a, true) else near1 l x
/-- No pattern stands there. -/
def corn (s a b : Int) : Bool := (a == 6 && b == 6) || (a == 6 && b == s - 7) || (a == s - 7 && b == 6)
/-- The center of the alignment pattern that contains a module, and whether there is one. -/
def alP (l : List Int) (s x y : Int) : (Int × Int) × Bool :=
  (((near1 l x).1, (near1 l y).1), (near1 l x).2 && (near1 l y).2 && !corn s (near1 l x).1 (near1 l y).1)
def isFin (s x y : Int) : Bool := (decide (x < 8) && decide (y < 8)) || (decide (s - 8 ≤ x) && decide (y < 8)) || (decide (x < 8) && decide (s - 8 ≤ y))
def isFor (s x y : Int) : Bool := (decide (y = 8) && (decide (x ≤ 8) || decide (s - 8 ≤ x))) || (decide (x = 8) && (decide (y ≤ 8) || decide (s - 7 ≤ y)))
def isVer (s x y : Int) : Bool := (decide (s - 11 ≤ x) && decide (x ≤ s - 9) && decide (y ≤ 5)) || (decide (s - 11 ≤ y) && decide (y ≤ s - 9) && decide (x ≤ 5))
/-- The purpose of a module. -/
def pur (v s : Int) (l : List Int) (x y : Int) : Int :=
  if isFin s x y = true then 2 else if (alP l s x y).2 = true then 4 else if x = 6 ∨ y = 6 then 3 else if x = 8 ∧ y = s - 8 then 7
  else if isFor s x y = true then 5 else if 7 ≤ v ∧ isVer s x y = true then 6 else 1

def dis (x y a b : Int) : Int := max (x - a) (max (a - x) (max (y - b) (b - y)))

/-- The purposes of the first m modules, row by row. -/
def cellsL (v : Int) (k : Nat) (l : List Int) (m : Nat) : List Int := (List.range m).map fun i => pur v k l ((i % k : Nat) : Int) ((i / k : Nat) : Int)

theorem near1_bd (B : Int) (hB : 0 ≤ B) : ∀ (l : List Int) (x : Int), (∀ a ∈ l, 0 ≤ a ∧ a ≤ B) → 0 ≤ (near1 l x).1 ∧ (near1 l x).1 ≤ B := by
  intro l
  induction l with
  | nil => intro x _; exact ⟨Int.le_refl _, hB⟩
  | cons a l ih =>
    intro x h
    unfold near1
    split
    · exact h a (by simp)
    · exact ih x fun b hb => h b (List.mem_cons_of_mem _ hb)

/-- The coordinates lie apart. -/
def Sparse (l : List Int) : Prop := ∀ i j (hi : i < l.length) (hj : j < l.length), i ≠ j → l[i] + 5 ≤ l[j] ∨ l[j] + 5 ≤ l[i]
def Near (x a : Int) : Prop := -2 ≤ x - a ∧ x - a ≤ 2
theorem near1_some : ∀ (l : List Int) (x : Int), (near1 l x).2 = true → ∃ i, ∃ hi : i < l.length, (near1 l x).1 = l[i] ∧ Near x l[i] := by
  intro l
  induction l with
  | nil => intro x h; cases h
  | cons a l ih =>
    intro x h
    unfold near1 at h ⊢
    split at h
    · rename_i hx
      rw [if_pos hx]
      exact ⟨0, by simp, rfl, hx⟩
    · rename_i hx
      rw [if_neg hx]
      obtain ⟨i, hi, h1, h2⟩ := ih x h
      exact ⟨i + 1, by simp; omega, by simpa using h1, by simpa using h2⟩
theorem near1_at : ∀ (l : List Int) (x : Int) (i : Nat) (hi : i < l.length), Near x l[i] → (near1 l x).2 = true := by
  intro l
  induction l with
  | nil => intro x i hi; simp at hi
  | cons a l ih =>
    intro x i hi h
    unfold near1
    split
    · rfl
    · rename_i hx
      match i, hi, h with
      | 0, _, h => exact absurd h hx
      | i + 1, hi, h => exact ih x i (by simpa using hi) (by simpa using h)
theorem near1_eq (l : List Int) (hsp : Sparse l) (x : Int) (i : Nat) (hi : i < l.length) (h : Near x l[i]) : near1 l x = (l[i], true) := by
  have h2 := near1_at l x i hi h
  obtain ⟨j, hj, h3, h4⟩ := near1_some l x h2
  have hij : i = j := by
    by_cases e : i = j
    · exact e
    · have := hsp i j hi hj e
      unfold Near at h h4
      omega
  subst hij
  exact Prod.ext h3 h2
def Hit (s x y a b : Int) : Prop := corn s a b = false ∧ Near x a ∧ Near y b
theorem alP_hit (l : List Int) (hsp : Sparse l) (s x y : Int) (i k : Nat) (hi : i < l.length) (hk : k < l.length) (h : Hit s x y l[i] l[k]) : alP l s x y = ((l[i], l[k]), true) := by
  unfold alP
  rw [near1_eq l hsp x i hi h.2.1, near1_eq l hsp y k hk h.2.2, h.1]
  rfl
theorem alP_no (l : List Int) (s x y : Int) (h : ∀ i k (hi : i < l.length) (hk : k < l.length), ¬ Hit s x y l[i] l[k]) : (alP l s x y).2 = false := by
  cases hp : (alP l s x y).2
  · rfl
  · unfold alP at hp
    simp only [Bool.and_eq_true, Bool.not_eq_true'] at hp
    obtain ⟨⟨h1, h2⟩, h3⟩ := hp
    obtain ⟨i, hi, e1, n1⟩ := near1_some l x h1
    obtain ⟨k, hk, e2, n2⟩ := near1_some l y h2
    rw [e1, e2] at h3
    exact absurd ⟨h3, n1, n2⟩ (h i k hi hk)
def rAl (l : List Int) (s x y : Int) : Int × Int × Bool := if (alP l s x y).2 = true then ((alP l s x y).1.1, (alP l s x y).1.2, true) else (0, 0, false)

end Go.Lay
