/-
  The contracts of qrlayout's distance, index, purpose.
  Conditions: a layout's slice holds its alignment coordinates; small numbers.
-/
import Derived.Test.YtjkpdhcnklgfbaaLayA
namespace Go.Proofs.Ytjkpdhcnklgfbaa
open Go.RowKit Go.Bs Go.Qrv Go.Lay

theorem run_max4 {P : Program} (w : World) (ts : Array TypeId) (t : TypeId) (k : IntKind) (p q r u : Int) :
    (Builtin.max_ ts t #[.int k p, .int k q, .int k r, .int k u]).run P w = .ok (.int k (max (max (max p q) r) u)) w := by
  have e : ∀ a b : Int, (if b > a then b else a) = max a b := fun a b => by omega
  simp [Builtin.max_, Builtin.max2, e]

set_option maxRecDepth 20000 in
set_option maxHeartbeats 800000 in
theorem distance_any (x y a b : Int) (w : World) (hx : 0 ≤ x ∧ x ≤ 1000) (hy : 0 ≤ y ∧ y ≤ 1000) (ha : 0 ≤ a ∧ a ≤ 1000) (hb : 0 ≤ b ∧ b ≤ 1000) :
    Calls Try.prog 87 #[.int .i64 x, .int .i64 y, .int .i64 a, .int .i64 b] w fun e w' => e = .returned (.int .i64 (dis x y a b)) ∧ w = w' := by
  have hmx := @run_max4 Try.prog
  go_enter Try.func87, Try.ntmps87
  go_wp2_with fail
  go_ret
  exact ⟨rfl, rfl⟩

set_option maxRecDepth 20000 in
set_option maxHeartbeats 800000 in
theorem index_any (v s x y : Int) (ao : Option Addr) (n cap : Nat) (w : World) (hs : 0 ≤ s ∧ s ≤ 1000) (hx : 0 ≤ x ∧ x ≤ 1000) (hy : 0 ≤ y ∧ y ≤ 1000) :
    Calls Try.prog 62 #[.agg (layV v s ao n cap), .agg #[.int .i64 x, .int .i64 y]] w fun e w' => e = .returned (.int .i64 (y * s + x)) ∧ Ext w w' := by
  obtain ⟨P, hP⟩ : ∃ P, y * s = P := ⟨_, rfl⟩
  have hp : 0 ≤ P ∧ P ≤ 1000000 := by
    rw [← hP]
    exact ⟨Int.mul_nonneg hy.1 hs.1, by have := Int.mul_le_mul hy.2 hs.2 hs.1 (by decide); omega⟩
  have hpw : wrap64 (y * s) = P := by rw [hP]; exact IntWalk.wrap64_in _ ⟨by omega, by omega⟩
  rw [hP]
  clear hP
  unfold layV
  go_enter Try.func62, Try.ntmps62
  go_wp2_with fail
  go_ret
  exact ⟨rfl, (Ext.alloc _ _).trans (Ext.alloc _ _)⟩

/-- What a purpose is outside the finder patterns and the alignment patterns. -/
def PurQ (v s x y C : Int) : Prop := ∀ c, (if x = 6 ∨ y = 6 then 3 else if x = 8 ∧ y = s - 8 then 7 else if (y = 8 ∧ (x ≤ 8 ∨ s - 8 ≤ x)) ∨ (x = 8 ∧ (y ≤ 8 ∨ s - 7 ≤ y)) then 5 else if 7 ≤ v ∧ ((s - 11 ≤ x ∧ x ≤ s - 9 ∧ y ≤ 5) ∨ (s - 11 ≤ y ∧ y ≤ s - 9 ∧ x ≤ 5)) then 6 else (1 : Int)) = c → C = c
theorem purQ (v s x y : Int) (l : List Int) (hf : ¬ isFin s x y = true) (hp : (alP l s x y).2 = false) : PurQ v s x y (pur v s l x y) := by
  intro c h
  rw [← h]
  unfold pur isFor isVer
  rw [if_neg hf, hp]
  simp only [Bool.false_eq_true, if_false, Bool.or_eq_true, Bool.and_eq_true, decide_eq_true_eq, and_assoc]

end Go.Proofs.Ytjkpdhcnklgfbaa
