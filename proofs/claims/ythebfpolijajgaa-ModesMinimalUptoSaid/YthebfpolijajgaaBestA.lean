/-
  Contracts of (plan).better and (*window).worse.
  Conditions: the blocks' cells are given; small numbers.
-/
import Derived.Test.YthebfpolijajgaaQueuePlain
import Derived.Test.YthebfpolijajgaaModeI
import Derived.Test.YthebfpolijajgaaTabR
import Derived.Deep.QuietTactic
import Derived.BigQuiet
namespace Go.Proofs.Ythebfpolijajgaa
open Go.RowKit Go.Bs Go.Mode

def plC (p : Pl) : Array Value := #[.int .i64 p.bits, .int .i64 p.seg, .int .i64 p.len, .int .i64 p.mode]

set_option maxRecDepth 20000 in
set_option maxHeartbeats 1600000 in
theorem better_any (a b : Pl) (w : World) : Calls Try.prog 82 #[.agg (plC a), .agg (plC b)] w fun e w' => e = .returned (.bool (decide (a.lt b))) ∧ Ext w w' := by
  have HL : Hid (a.lt b ↔ (a.bits < b.bits ∨ (a.bits = b.bits ∧ (a.seg < b.seg ∨ (a.seg = b.seg ∧ (b.len < a.len ∨ (a.len = b.len ∧ a.mode < b.mode))))))) := Iff.rfl
  obtain ⟨a1, a2, a3, a4⟩ := a
  obtain ⟨b1, b2, b3, b4⟩ := b
  simp only at HL
  obtain ⟨L, hL⟩ : ∃ L, L = decide (Pl.lt ⟨a1, a2, a3, a4⟩ ⟨b1, b2, b3, b4⟩) := ⟨_, rfl⟩
  rw [← hL]
  have HLL : Hid (L = decide (a1 < b1 ∨ (a1 = b1 ∧ (a2 < b2 ∨ (a2 = b2 ∧ (b3 < a3 ∨ (a3 = b3 ∧ a4 < b4))))))) := by
    show _ = _
    rw [hL, decide_eq_decide]
    exact HL.out
  clear hL HL
  simp only [plC]
  by_cases h1 : a1 = b1
  · subst h1
    by_cases h2 : a2 = b2
    · subst h2
      by_cases h3 : a3 = b3
      · subst h3
        have HR : Hid (L = decide (a4 < b4)) := by show _ = _; rw [HLL.out, decide_eq_decide]; omega
        go_enter Try.func82, Try.ntmps82
        go_wp2_with fail
        go_ret
        exact ⟨by rw [HR.out]; rfl, (Ext.alloc _ _).trans (Ext.alloc _ _)⟩
      · have h3' : ((a3 : Int) != (b3 : Int)) = true := by simp; omega
        have HR : Hid (L = decide (b3 < a3)) := by show _ = _; rw [HLL.out, decide_eq_decide]; omega
        clear h3
        go_enter Try.func82, Try.ntmps82
        go_wp2_with fail
        go_ret
        exact ⟨by rw [HR.out]; rfl, (Ext.alloc _ _).trans (Ext.alloc _ _)⟩
    · have h3' : ((a2 : Int) != (b2 : Int)) = true := by simp; omega
      have HR : Hid (L = decide (a2 < b2)) := by show _ = _; rw [HLL.out, decide_eq_decide]; omega
      clear h2
      go_enter Try.func82, Try.ntmps82
      go_wp2_with fail
      go_ret
      exact ⟨by rw [HR.out]; rfl, (Ext.alloc _ _).trans (Ext.alloc _ _)⟩
  · have h3' : ((a1 : Int) != (b1 : Int)) = true := by simp; omega
    have HR : Hid (L = decide (a1 < b1)) := by show _ = _; rw [HLL.out, decide_eq_decide]; omega
    clear h1
    go_enter Try.func82, Try.ntmps82
    go_wp2_with fail
    go_ret
    exact ⟨by rw [HR.out]; rfl, (Ext.alloc _ _).trans (Ext.alloc _ _)⟩

/-- A plan lies at an index of the table. -/
structure PlanAt (w : World) (gp e : Nat) (p : Pl) : Prop where
  c0 : w.cell? ⟨gp, e * 4, none⟩ = some (.int .i64 p.bits)
  c1 : w.cell? ⟨gp, e * 4 + 1, none⟩ = some (.int .i64 p.seg)
  c2 : w.cell? ⟨gp, e * 4 + 2, none⟩ = some (.int .i64 p.len)
  c3 : w.cell? ⟨gp, e * 4 + 3, none⟩ = some (.int .i64 p.mode)

theorem fullI_N (m : Int) : fullI m = (fullN m : Int) := by unfold fullI fullN; split <;> (try split) <;> rfl

set_option maxRecDepth 20000 in
set_option maxHeartbeats 1600000 in
theorem worse_any (g gp np : Nat) (m : Int) (F : Nat → Pl) (a b : Nat) (w : World) (hn : np ≤ 4097) (ha : a < np) (hb : b < np) (hpa : PlanAt w gp a (F a)) (hpb : PlanAt w gp b (F b)) (h1 : (F a).bits ≤ 1048576) (h2 : (F b).bits ≤ 1048576)
    (z1 : w.cell? ⟨g, 1, none⟩ = some (.int .i64 (unitN m))) (z3 : w.cell? ⟨g, 3, none⟩ = some (.int .i64 (fullI m))) :
    Calls Try.prog 81 #[.pointer (some ⟨g, 0, none⟩), .slice (some ⟨gp, 0, none⟩) np np, .int .i64 a, .int .i64 b] w fun e w' => e = .returned (.bool (decide (gtW m F a b))) ∧ ∃ x, w' = w.drewN x := by
  obtain ⟨a0, a1, _, _⟩ := hpa
  obtain ⟨b0, b1, _, _⟩ := hpb
  obtain ⟨u, hu⟩ : ∃ u, u = unitN m := ⟨_, rfl⟩
  obtain ⟨f, hf⟩ : ∃ f, f = fullN m := ⟨_, rfl⟩
  rw [fullI_N] at z3
  have hub : 1 ≤ u ∧ u ≤ 3 := by rw [hu]; unfold unitN; split <;> (try split) <;> omega
  have hfb : f ≤ 11 := by rw [hf]; unfold fullN; split <;> (try split) <;> omega
  have HG : Hid (gtW m F a b ↔ (f * (b / u) + (F b).bits < f * (a / u) + (F a).bits ∨ (f * (a / u) + (F a).bits = f * (b / u) + (F b).bits ∧ (F b).seg < (F a).seg))) := by
    show _ ↔ _
    rw [hu, hf]
    exact Iff.rfl
  rw [← hu] at z1
  rw [← hf] at z3
  clear hu hf
  have qa : (a : Int).tdiv (u : Int) = ((a / u : Nat) : Int) := by rw [Int.tdiv_eq_ediv_of_nonneg (by omega)]; rfl
  have qb : (b : Int).tdiv (u : Int) = ((b / u : Nat) : Int) := by rw [Int.tdiv_eq_ediv_of_nonneg (by omega)]; rfl
  have ra : (a : Int) / (u : Int) = ((a / u : Nat) : Int) := rfl
  have rb : (b : Int) / (u : Int) = ((b / u : Nat) : Int) := rfl
  have la : a / u ≤ 4097 := Nat.le_trans (Nat.div_le_self _ _) (by omega)
  have lb : b / u ≤ 4097 := Nat.le_trans (Nat.div_le_self _ _) (by omega)
  obtain ⟨A, hA⟩ : ∃ A, A = a / u := ⟨_, rfl⟩
  obtain ⟨B, hB⟩ : ∃ B, B = b / u := ⟨_, rfl⟩
  rw [← hA] at qa ra la HG
  rw [← hB] at qb rb lb HG
  clear hA hB
  have mA : f * A ≤ 11 * 4097 := Nat.mul_le_mul hfb la
  have mB : f * B ≤ 11 * 4097 := Nat.mul_le_mul hfb lb
  obtain ⟨X, hX⟩ : ∃ X, X = f * A := ⟨_, rfl⟩
  obtain ⟨Y, hY⟩ : ∃ Y, Y = f * B := ⟨_, rfl⟩
  have pA : (f : Int) * (A : Int) = (X : Int) := by rw [hX]; rfl
  have pB : (f : Int) * (B : Int) = (Y : Int) := by rw [hY]; rfl
  rw [← hX] at mA HG
  rw [← hY] at mB HG
  clear hX hY
  obtain ⟨fa, hfa⟩ : ∃ fa, fa = F a := ⟨_, rfl⟩
  obtain ⟨fb, hfb'⟩ : ∃ fb, fb = F b := ⟨_, rfl⟩
  rw [← hfa] at HG a0 a1 h1
  rw [← hfb'] at HG b0 b1 h2
  clear hfa hfb'
  obtain ⟨L, hL⟩ : ∃ L, L = decide (gtW m F a b) := ⟨_, rfl⟩
  rw [← hL]
  have HLL : Hid (L = decide (Y + fb.bits < X + fa.bits ∨ (X + fa.bits = Y + fb.bits ∧ fb.seg < fa.seg))) := by
    show _ = _
    rw [hL, decide_eq_decide]
    exact HG.out
  clear hL HG
  by_cases c1 : Y + fb.bits < X + fa.bits
  · have HR : Hid (L = true) := by show _ = _; rw [HLL.out, decide_eq_true_iff]; exact Or.inl c1
    have d1 : decide ((Y : Int) + (fb.bits : Int) < (X : Int) + (fa.bits : Int)) = true := by simp; omega
    go_enter Try.func81, Try.ntmps81
    go_wp2_with fail
    go_quiet (fail)
    go_wp2_with fail
    go_quiet (fail)
    go_wp2_with fail
    go_quiet (fail)
    go_wp2_with fail
    go_ret
    exact ⟨by rw [HR.out]; rfl, by rw [World.drewN_drewN, World.drewN_drewN]; exact ⟨_, rfl⟩⟩
  · have d1 : decide ((Y : Int) + (fb.bits : Int) < (X : Int) + (fa.bits : Int)) = false := by simp; omega
    by_cases c2 : X + fa.bits = Y + fb.bits
    · have d2 : ((X : Int) + (fa.bits : Int) == (Y : Int) + (fb.bits : Int)) = true := by simp; omega
      have HR : Hid (L = decide (fb.seg < fa.seg)) := by show _ = _; rw [HLL.out, decide_eq_decide]; omega
      have C2 := Lib.hid c2
      clear c2
      go_enter Try.func81, Try.ntmps81
      go_wp2_with fail
      go_quiet (fail)
      go_wp2_with fail
      go_quiet (fail)
      go_wp2_with fail
      go_quiet (fail)
      go_wp2_with fail
      go_ret
      exact ⟨by rw [HR.out]; rfl, by rw [World.drewN_drewN, World.drewN_drewN]; exact ⟨_, rfl⟩⟩
    · have d2 : ((X : Int) + (fa.bits : Int) == (Y : Int) + (fb.bits : Int)) = false := by rw [beq_eq_false_iff_ne]; omega
      have HR : Hid (L = false) := by show _ = _; rw [HLL.out, decide_eq_false_iff_not]; omega
      have C2 := Lib.hid c2
      clear c2
      go_enter Try.func81, Try.ntmps81
      go_wp2_with fail
      go_quiet (fail)
      go_wp2_with fail
      go_quiet (fail)
      go_wp2_with fail
      go_quiet (fail)
      go_wp2_with fail
      go_ret
      exact ⟨by rw [HR.out]; rfl, by rw [World.drewN_drewN, World.drewN_drewN]; exact ⟨_, rfl⟩⟩

end Go.Proofs.Ythebfpolijajgaa
