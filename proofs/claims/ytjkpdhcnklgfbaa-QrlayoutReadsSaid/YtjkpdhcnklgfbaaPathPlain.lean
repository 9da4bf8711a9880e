/-
  Plain: the path through the data modules; points in memory.
  Conditions stand in each lemma.
-/
import Derived.Test.YtjkpdhcnklgfbaaRCells
namespace Go.Proofs.Ytjkpdhcnklgfbaa
open Go.RowKit Go.Bs Go.Qrv Go.Lay

/-- The right one of the two columns of the k-th way. -/
def rtN (s k : Nat) : Nat := if 2 * k + 9 ≤ s then s - 1 - 2 * k else s - 2 - 2 * k
def isD (n x y : Nat) : Bool := pur n (sd n) (al n) x y == 1
def yOf (s k i : Nat) : Nat := if k % 2 = 0 then s - 1 - i else i
def visit (n k i j : Nat) : List (Nat × Nat) := if isD n (rtN (sd n) k - j) (yOf (sd n) k i) = true then [(rtN (sd n) k - j, yOf (sd n) k i)] else []
def path3 (n k i j : Nat) : List (Nat × Nat) := (List.range j).flatMap (visit n k i)
def path2 (n k i : Nat) : List (Nat × Nat) := (List.range i).flatMap fun i => path3 n k i 2
def path1 (n k : Nat) : List (Nat × Nat) := (List.range k).flatMap fun k => path2 n k (sd n)
def pathN (n : Nat) : List (Nat × Nat) := path1 n ((sd n - 1) / 2)
/-- What has come before a visit. -/
def pre (n k i j : Nat) : List (Nat × Nat) := path1 n k ++ (path2 n k i ++ path3 n k i j)
theorem pre_visit (n k i j : Nat) : pre n k i (j + 1) = pre n k i j ++ visit n k i j := by
  unfold pre
  rw [show path3 n k i (j + 1) = path3 n k i j ++ visit n k i j from by unfold path3; rw [List.range_succ, List.flatMap_append]; simp]
  simp only [List.append_assoc]
theorem pre_row (n k i : Nat) : pre n k (i + 1) 0 = pre n k i 2 := by
  unfold pre
  rw [show path2 n k (i + 1) = path2 n k i ++ path3 n k i 2 from by unfold path2; rw [List.range_succ, List.flatMap_append]; simp]
  rw [show path3 n k (i + 1) 0 = [] from rfl, List.append_nil]
theorem pre_col (n k : Nat) : pre n (k + 1) 0 0 = pre n k (sd n) 0 := by
  unfold pre
  rw [show path1 n (k + 1) = path1 n k ++ path2 n k (sd n) from by unfold path1; rw [List.range_succ, List.flatMap_append]; simp]
  rw [show path3 n (k + 1) 0 0 = [] from rfl, show path2 n (k + 1) 0 = [] from rfl, show path3 n k (sd n) 0 = [] from rfl]
  simp
theorem pre_start (n : Nat) : pre n 0 0 0 = [] := rfl
theorem pre_end (n : Nat) : pre n ((sd n - 1) / 2) 0 0 = pathN n := by
  unfold pre pathN
  rw [show path3 n ((sd n - 1) / 2) 0 0 = [] from rfl, show path2 n ((sd n - 1) / 2) 0 = [] from rfl]
  simp
theorem visit_len (n k i j : Nat) : (visit n k i j).length ≤ 1 := by unfold visit; split <;> simp
theorem path3_len (n k i j : Nat) : (path3 n k i j).length ≤ j := by
  induction j with
  | zero => exact Nat.le_refl _
  | succ j ih =>
    rw [show path3 n k i (j + 1) = path3 n k i j ++ visit n k i j from by unfold path3; rw [List.range_succ, List.flatMap_append]; simp, List.length_append]
    have := visit_len n k i j
    omega
theorem path2_len (n k i : Nat) : (path2 n k i).length ≤ 2 * i := by
  induction i with
  | zero => exact Nat.le_refl _
  | succ i ih =>
    rw [show path2 n k (i + 1) = path2 n k i ++ path3 n k i 2 from by unfold path2; rw [List.range_succ, List.flatMap_append]; simp, List.length_append]
    have := path3_len n k i 2
    omega
theorem path1_len (n k : Nat) : (path1 n k).length ≤ 2 * sd n * k := by
  induction k with
  | zero => exact Nat.le_refl _
  | succ k ih =>
    rw [show path1 n (k + 1) = path1 n k ++ path2 n k (sd n) from by unfold path1; rw [List.range_succ, List.flatMap_append]; simp, List.length_append]
    have := path2_len n k (sd n)
    rw [Nat.mul_add]
    omega
theorem pre_len (n k i j : Nat) (hs : sd n ≤ 177) (hk : k ≤ 100) (hi : i ≤ 177) (hj : j ≤ 2) : (pre n k i j).length ≤ 100000 := by
  unfold pre
  rw [List.length_append, List.length_append]
  have h1 := path1_len n k
  have h2 := path2_len n k i
  have h3 := path3_len n k i j
  have h4 : 2 * sd n * k ≤ 354 * 100 := Nat.mul_le_mul (by omega) hk
  omega

/-- Points as cells. -/
def pcells (l : List (Nat × Nat)) : List Value := l.flatMap fun p => [.int .i64 (p.1 : Int), .int .i64 (p.2 : Int)]
theorem pcells_len (l : List (Nat × Nat)) : (pcells l).length = l.length * 2 := by
  induction l with
  | nil => rfl
  | cons p l ih =>
    have : pcells (p :: l) = .int .i64 (p.1 : Int) :: .int .i64 (p.2 : Int) :: pcells l := rfl
    rw [this, List.length_cons, List.length_cons, ih, List.length_cons]
    omega
theorem pcells_snoc (l : List (Nat × Nat)) (x y : Nat) : pcells (l ++ [(x, y)]) = pcells l ++ [.int .i64 (x : Int), .int .i64 (y : Int)] := by unfold pcells; rw [List.flatMap_append]; rfl
theorem pcells_at (l : List (Nat × Nat)) : ∀ (i : Nat) (p : Nat × Nat), l[i]? = some p → (pcells l)[i * 2]? = some (.int .i64 (p.1 : Int)) ∧ (pcells l)[i * 2 + 1]? = some (.int .i64 (p.2 : Int)) := by
  induction l with
  | nil => intro i p h; simp at h
  | cons q l ih =>
    intro i p h
    have e : pcells (q :: l) = .int .i64 (q.1 : Int) :: .int .i64 (q.2 : Int) :: pcells l := rfl
    rw [e]
    match i, h with
    | 0, h => simp at h; subst h; exact ⟨rfl, rfl⟩
    | i + 1, h =>
      have := ih i p (by simpa using h)
      rw [show (i + 1) * 2 = i * 2 + 1 + 1 by omega]
      simpa using this

/-- A slice of points. -/
def Pts (w : World) (ao : Option Addr) (l : List (Nat × Nat)) : Prop :=
  ∀ (i : Nat) (p : Nat × Nat), l[i]? = some p → ∃ b off, ao = some ⟨b, off, none⟩ ∧ w.cell? ⟨b, off + i * 2, none⟩ = some (.int .i64 (p.1 : Int)) ∧ w.cell? ⟨b, off + i * 2 + 1, none⟩ = some (.int .i64 (p.2 : Int))
theorem Pts.ext {w w' : World} {ao : Option Addr} {l : List (Nat × Nat)} (h : Pts w ao l) (hx : Ext w w') : Pts w' ao l := by
  intro i p hi
  obtain ⟨b, off, ha, h1, h2⟩ := h i p hi
  exact ⟨b, off, ha, hx.cell h1, hx.cell h2⟩
theorem Pts.own {w : World} {B : Nat} {e : TypeId} {v : Value} {l : List (Nat × Nat)} (h : w.ownsRow B e 2 v l.length (pcells l)) :
    ∃ ao cap, v = .slice ao l.length cap ∧ l.length ≤ cap ∧ cap ≤ 9223372036854775807 ∧ Pts w ao l := by
  rcases h.2 with ⟨rfl, hn⟩ | ⟨g, cap, cur, rfl, hb, hg, hnc, hcm, hcs, htake⟩
  · have hl : l = [] := List.eq_nil_of_length_eq_zero hn
    subst hl
    exact ⟨none, 0, rfl, Nat.le_refl _, by decide, fun i p hi => by simp at hi⟩
  · refine ⟨some ⟨g, 0, none⟩, cap, rfl, hnc, by unfold maxLen at hcm; omega, fun i p hi => ⟨g, 0, rfl, ?_, ?_⟩⟩
    · have := h.cells (g := g) rfl (i * 2) _ (pcells_at l i p hi).1
      rw [add_zero_off] at this
      simpa using this
    · have := h.cells (g := g) rfl (i * 2 + 1) _ (pcells_at l i p hi).2
      rw [add_zero_off] at this
      simpa using this
/-- Points and an error code are returned. -/
def RetPts (w : World) (r : List (Nat × Nat) × Int) (e : Ending) (w' : World) : Prop :=
  ∃ ao cap, e = .returned (.tuple #[.slice ao r.1.length cap, .int .i64 r.2]) ∧ Pts w' ao r.1 ∧ r.1.length ≤ cap ∧ cap ≤ 9223372036854775807 ∧ Ext w w'
theorem RetPts.nil (w w' : World) (c : Int) (h : Ext w w') : RetPts w ([], c) (.returned (.tuple #[.slice none 0 0, .int .i64 c])) w' :=
  ⟨none, 0, rfl, fun i p hi => by simp at hi, Nat.le_refl _, by decide, h⟩
def pathRes (v : Int) : List (Nat × Nat) × Int := if inV v then (pathN v.toNat, 0) else ([], 14)
theorem pathRes_1 {v : Nat} (h : inV v) : pathRes v = (pathN v, 0) := by unfold pathRes; rw [if_pos h]; rfl
theorem pathRes_2 {v : Int} (h : ¬ inV v) : pathRes v = ([], 14) := by unfold pathRes; rw [if_neg h]
theorem Try.infoPoint : (Try.prog.info? 45).map (fun i => (i.zero, i.size, i.bytes)) = some (some (.agg #[.int .i64 0, .int .i64 0]), 2, 16) := by kernel_rfl
theorem cellsN_D (n x y : Nat) (hx : x < sd n) (hy : y < sd n) : (ints (cellsN n))[y * sd n + x]? = some (.int .i64 (pur n (sd n) (al n) x y)) := by
  have hs : 0 < sd n := by omega
  have h1 : (y * sd n + x) % sd n = x := by rw [Nat.add_comm, Nat.add_mul_mod_self_right, Nat.mod_eq_of_lt hx]
  have h2 : (y * sd n + x) / sd n = y := by rw [Nat.add_comm, Nat.add_mul_div_right _ _ hs, Nat.div_eq_of_lt hx, Nat.zero_add]
  have h3 : y * sd n + x < sd n * sd n := by
    have : (y + 1) * sd n ≤ sd n * sd n := Nat.mul_le_mul_right _ hy
    rw [Nat.add_mul] at this
    omega
  have := cellsN_at n (y * sd n + x) h3
  rw [h1, h2] at this
  exact this

end Go.Proofs.Ytjkpdhcnklgfbaa
