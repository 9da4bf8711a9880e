/-
  Plain: the best segmentation of a payload, as a table from its end to its beginning; its leastness; the queues of ends.
  No program; conditions stand in each lemma.
-/
import Derived.Test.YthebfpolijajgaaModePlain
namespace Go.Mode
open Go Go.Bs

/-- A plan: its bits, its segments, the length and the mode of the first one. -/
structure Pl where
  bits : Nat
  seg : Nat
  len : Nat
  mode : Int

def Pl.lt (a b : Pl) : Prop := a.bits < b.bits ∨ (a.bits = b.bits ∧ (a.seg < b.seg ∨ (a.seg = b.seg ∧ (b.len < a.len ∨ (a.len = b.len ∧ a.mode < b.mode)))))
instance (a b : Pl) : Decidable (a.lt b) := by unfold Pl.lt; infer_instance
def zeroP : Pl := ⟨0, 0, 0, 0⟩
def candP (m : Int) (k n : Nat) (r : Pl) : Pl := ⟨segB m k n + r.bits, r.seg + 1, n, m⟩

theorem Pl.eq_of {a b : Pl} (h : ¬ a.lt b) (h' : ¬ b.lt a) : a = b := by
  cases a; cases b
  simp only [Pl.lt] at h h'
  congr 1 <;> omega

/-- b is the least of S, or S is empty and b is top. -/
def LeastOf (S : Pl → Prop) (top b : Pl) : Prop := (b = top ∧ ∀ d, ¬ S d) ∨ (S b ∧ ∀ d, S d → ¬ d.lt b)

theorem LeastOf.congr {S S' : Pl → Prop} {top b : Pl} (h : LeastOf S top b) (hs : ∀ d, S' d ↔ S d) : LeastOf S' top b := by
  rcases h with ⟨h1, h2⟩ | ⟨h1, h2⟩
  · exact Or.inl ⟨h1, fun d hd => h2 d ((hs d).1 hd)⟩
  · exact Or.inr ⟨(hs b).2 h1, fun d hd => h2 d ((hs d).1 hd)⟩
theorem LeastOf.empty {S : Pl → Prop} {top : Pl} (h : ∀ d, ¬ S d) : LeastOf S top top := Or.inl ⟨rfl, h⟩
/-- A further set, of which f is the least, where f is less than the least so far (or there is none). -/
theorem LeastOf.take {S S' C : Pl → Prop} {top b f : Pl} (h : LeastOf S top b) (hs : ∀ d, S' d ↔ S d ∨ C d) (hf : C f) (hl : ∀ d, C d → ¬ d.lt f) (hlt : f.lt b ∨ ∀ d, ¬ S d) : LeastOf S' top f := by
  refine Or.inr ⟨(hs f).2 (Or.inr hf), fun d hd => ?_⟩
  rcases (hs d).1 hd with h1 | h1
  · rcases h with ⟨_, h2⟩ | ⟨_, h2⟩
    · exact absurd h1 (h2 d)
    · rcases hlt with hlt | hlt
      · have := h2 d h1
        simp only [Pl.lt] at *
        omega
      · exact absurd h1 (hlt d)
  · exact hl d h1
theorem LeastOf.keep {S S' C : Pl → Prop} {top b f : Pl} (h : LeastOf S top b) (hs : ∀ d, S' d ↔ S d ∨ C d) (hl : ∀ d, C d → ¬ d.lt f) (hb : S b) (hlt : ¬ f.lt b) : LeastOf S' top b := by
  rcases h with ⟨_, h2⟩ | ⟨h1, h2⟩
  · exact absurd hb (h2 b)
  · refine Or.inr ⟨(hs b).2 (Or.inl h1), fun d hd => ?_⟩
    rcases (hs d).1 hd with h3 | h3
    · exact h2 d h3
    · have := hl d h3
      simp only [Pl.lt] at *
      omega

/-- The least of a list. -/
def leastL : List Pl → Pl
  | [] => zeroP
  | [a] => a
  | a :: b :: l => if a.lt (leastL (b :: l)) then a else leastL (b :: l)
theorem leastL_spec : ∀ (l : List Pl), l ≠ [] → leastL l ∈ l ∧ ∀ d ∈ l, ¬ d.lt (leastL l)
  | [], h => absurd rfl h
  | [a], _ => by
    refine ⟨by simp [leastL], fun d hd => ?_⟩
    simp at hd
    subst hd
    simp [leastL, Pl.lt]
  | a :: b :: l, _ => by
    obtain ⟨h1, h2⟩ := leastL_spec (b :: l) (by simp)
    unfold leastL
    split
    · rename_i h
      refine ⟨by simp, fun d hd => ?_⟩
      rcases List.mem_cons.1 hd with rfl | hd
      · simp [Pl.lt]
      · have := h2 d hd
        simp only [Pl.lt] at *
        omega
    · rename_i h
      refine ⟨List.mem_cons_of_mem _ h1, fun d hd => ?_⟩
      rcases List.mem_cons.1 hd with rfl | hd
      · exact h
      · exact h2 d hd

/-- How many bytes from the beginning fit a mode (no more than a segment may have). -/
def runN (m : Int) (k : Nat) (q : List UInt8) : Nat := min (q.takeWhile (fitsB m)).length (2 ^ cntB m k - 1)
def candsM (m : Int) (k : Nat) (q : List UInt8) (T : Nat → Pl) : List Pl := (List.range (runN m k q)).map fun i => candP m k (i + 1) (T (i + 1))
def candsL (k : Nat) (q : List UInt8) (T : Nat → Pl) : List Pl := candsM 1 k q T ++ (candsM 2 k q T ++ candsM 4 k q T)
/-- The best plans of all rests of a payload. -/
def tabs (k : Nat) : List UInt8 → List Pl
  | [] => [zeroP]
  | c :: r => leastL (candsL k (c :: r) fun n => (tabs k r).getD (n - 1) zeroP) :: tabs k r
def plan (k : Nat) (q : List UInt8) : Pl := (tabs k q).headD zeroP

theorem plan_nil (k : Nat) : plan k [] = zeroP := rfl
theorem tabs_get (k : Nat) : ∀ (q : List UInt8) (i : Nat), i ≤ q.length → (tabs k q).getD i zeroP = plan k (q.drop i)
  | [], i, h => by
    simp at h
    subst h
    rfl
  | c :: r, 0, _ => by simp [plan, tabs]
  | c :: r, i + 1, h => by
    rw [tabs]
    simpa using tabs_get k r i (by simpa using h)

/-- A candidate for the first segment of q. -/
def IsCand (k : Nat) (q : List UInt8) (d : Pl) : Prop :=
  ∃ m n, okMode m = true ∧ 1 ≤ n ∧ n ≤ q.length ∧ n < 2 ^ cntB m k ∧ (∀ c ∈ q.take n, fitsB m c = true) ∧ d = candP m k n (plan k (q.drop n))

theorem takeWhile_run (f : UInt8 → Bool) : ∀ (q : List UInt8) (n : Nat), n ≤ (q.takeWhile f).length ↔ n ≤ q.length ∧ ∀ c ∈ q.take n, f c = true
  | [], n => by simp
  | x :: q, 0 => by simp
  | x :: q, n + 1 => by
    have ih := takeWhile_run f q n
    by_cases hx : f x = true
    · simp [hx, ih]
    · simp [hx]

theorem okMode_three {m : Int} (h : okMode m = true) : m = 1 ∨ m = 2 ∨ m = 4 := by
  unfold okMode at h
  simp only [Bool.or_eq_true, beq_iff_eq] at h
  omega
theorem cnt_pos (m : Int) (k : Nat) : 8 ≤ cntB m k := by unfold cntB; split <;> (try split) <;> (try split) <;> omega
theorem pow_cnt (m : Int) (k : Nat) : 256 ≤ 2 ^ cntB m k := Nat.le_trans (by decide) (Nat.pow_le_pow_right (by decide) (cnt_pos m k))

theorem mem_candsM (m : Int) (k : Nat) (c : UInt8) (r : List UInt8) (d : Pl) :
    d ∈ candsM m k (c :: r) (fun n => (tabs k r).getD (n - 1) zeroP) ↔ ∃ n, 1 ≤ n ∧ n ≤ (c :: r).length ∧ n < 2 ^ cntB m k ∧ (∀ x ∈ (c :: r).take n, fitsB m x = true) ∧ d = candP m k n (plan k ((c :: r).drop n)) := by
  have hp := pow_cnt m k
  unfold candsM runN
  rw [List.mem_map]
  constructor
  · rintro ⟨i, hi, rfl⟩
    rw [List.mem_range] at hi
    have h1 := (takeWhile_run (fitsB m) (c :: r) (i + 1)).1 (by omega)
    refine ⟨i + 1, by omega, h1.1, by omega, h1.2, ?_⟩
    rw [List.drop_succ_cons]
    show candP m k (i + 1) ((tabs k r).getD i zeroP) = _
    rw [tabs_get k r i (by have := h1.1; simp at this; omega)]
  · rintro ⟨n, h1, h2, h3, h4, rfl⟩
    have h5 := (takeWhile_run (fitsB m) (c :: r) n).2 ⟨h2, h4⟩
    refine ⟨n - 1, by rw [List.mem_range]; omega, ?_⟩
    obtain ⟨i, rfl⟩ : ∃ i, n = i + 1 := ⟨n - 1, by omega⟩
    rw [List.drop_succ_cons, Nat.add_sub_cancel]
    show candP m k (i + 1) ((tabs k r).getD i zeroP) = _
    rw [tabs_get k r i (by simp at h2; omega)]

theorem mem_candsL (k : Nat) (c : UInt8) (r : List UInt8) (d : Pl) : d ∈ candsL k (c :: r) (fun n => (tabs k r).getD (n - 1) zeroP) ↔ IsCand k (c :: r) d := by
  unfold candsL IsCand
  rw [List.mem_append, List.mem_append, mem_candsM, mem_candsM, mem_candsM]
  constructor
  · rintro (⟨n, h⟩ | ⟨n, h⟩ | ⟨n, h⟩)
    · exact ⟨1, n, rfl, h⟩
    · exact ⟨2, n, rfl, h⟩
    · exact ⟨4, n, rfl, h⟩
  · rintro ⟨m, n, hm, h⟩
    rcases okMode_three hm with rfl | rfl | rfl
    · exact Or.inl ⟨n, h⟩
    · exact Or.inr (Or.inl ⟨n, h⟩)
    · exact Or.inr (Or.inr ⟨n, h⟩)

theorem cand_byte (k : Nat) (q : List UInt8) (h : q ≠ []) : IsCand k q (candP 4 k 1 (plan k (q.drop 1))) :=
  ⟨4, 1, rfl, Nat.le_refl _, List.length_pos_iff.2 h, by have := pow_cnt 4 k; omega, fun _ _ => rfl, rfl⟩

theorem plan_least (k : Nat) (q : List UInt8) (h : q ≠ []) : IsCand k q (plan k q) ∧ ∀ d, IsCand k q d → ¬ d.lt (plan k q) := by
  cases q with
  | nil => exact absurd rfl h
  | cons c r =>
    have e : plan k (c :: r) = leastL (candsL k (c :: r) fun n => (tabs k r).getD (n - 1) zeroP) := by simp [plan, tabs]
    obtain ⟨h1, h2⟩ := leastL_spec (candsL k (c :: r) fun n => (tabs k r).getD (n - 1) zeroP) (by
      intro e
      have := (mem_candsL k c r _).2 (cand_byte k (c :: r) h)
      rw [e] at this
      cases this)
    rw [e]
    exact ⟨(mem_candsL k c r _).1 h1, fun d hd => h2 d ((mem_candsL k c r d).2 hd)⟩

theorem plan_unique (k : Nat) (q : List UInt8) (b top : Pl) (h : q ≠ []) (hb : LeastOf (IsCand k q) top b) : b = plan k q := by
  obtain ⟨h1, h2⟩ := plan_least k q h
  rcases hb with ⟨_, h3⟩ | ⟨h3, h4⟩
  · exact absurd h1 (h3 _)
  · exact Pl.eq_of (h2 b h3) (h4 _ h1)

theorem plan_bd (k : Nat) : ∀ (n : Nat) (q : List UInt8), q.length = n → (plan k q).bits ≤ 28 * n ∧ (plan k q).seg ≤ n ∧ (plan k q).len ≤ n ∧ 0 ≤ (plan k q).mode ∧ (plan k q).mode ≤ 4 ∧ (0 < n → 1 ≤ (plan k q).len ∧ okMode (plan k q).mode = true) := by
  intro n
  induction n using Nat.strongRecOn with
  | ind n ih =>
    intro q hq
    by_cases h : q = []
    · subst h
      simp at hq
      subst hq
      rw [plan_nil]
      simp [zeroP]
    · have hp : 0 < q.length := List.length_pos_iff.2 h
      obtain ⟨⟨m, j, hm, h1, h2, h3, h4, h5⟩, hl⟩ := plan_least k q h
      have hb := hl _ (cand_byte k q h)
      have i1 := ih (n - 1) (by omega) (q.drop 1) (by simp; omega)
      have i2 := ih (n - j) (by omega) (q.drop j) (by simp; omega)
      have hs : segB 4 k 1 ≤ 28 := by simp [segB, cntB, dsize]; split <;> omega
      have hb' : (plan k q).bits ≤ segB 4 k 1 + (plan k (q.drop 1)).bits := by
        simp only [Pl.lt, candP] at hb
        omega
      refine ⟨by omega, ?_, ?_, ?_, ?_, fun _ => ?_⟩
      · rw [h5]; simp only [candP]; omega
      · rw [h5]; simp only [candP]; omega
      · rw [h5]; simp only [candP]; rcases okMode_three hm with rfl | rfl | rfl <;> omega
      · rw [h5]; simp only [candP]; rcases okMode_three hm with rfl | rfl | rfl <;> omega
      · rw [h5]; exact ⟨h1, hm⟩

/-- The segments of the best plan. -/
def bestF (k : Nat) : Nat → List UInt8 → List (Int × List UInt8)
  | 0, _ => []
  | f + 1, q => if q = [] then [] else ((plan k q).mode, q.take (plan k q).len) :: bestF k f (q.drop (plan k q).len)
def bestL (k : Nat) (q : List UInt8) : List (Int × List UInt8) := bestF k q.length q

end Go.Mode
