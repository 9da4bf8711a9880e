/-
  The modules of format and version information: contracts of qrlayout's formats and versions.
  Conditions: small numbers.
  Numbers are written into modules, and read: contracts of qrlayout's write and read.
  Conditions: the modules lie in the matrix.
  Version, level and mask are read out of a matrix: contracts of qrlayout's readVersion, readFormat and Read.
  Conditions: a matrix of a version's size; or one that is not.
  The contract of qrlayout.Sign.
  Conditions: a matrix of a version's size; or one that is not.
  The contracts of the reference's FormatAt, VersionAt, Same and Points.
  Conditions: small numbers.
-/
import Derived.Test.YtjkpdhcnklgfbaaPathPlain
import Derived.Test.YtjkpdhcnklgfbaaRound
import Derived.Test.YtjkpdhcnklgfbaaLayB
import Derived.Test.YtjkpdhcnklgfbaaBchI
import Derived.Test.YtjkpdhcnklgfbaaBitsA
namespace Go.Lay
/-- The module (x, y) of a bit of a copy (0, 1) of the format information. -/
def fmAt (s copy i : Nat) : Nat × Nat :=
  if copy = 1 then (if i < 8 then (s - 1 - i, 8) else (8, s - 15 + i)) else if i < 6 then (8, i) else if i < 8 then (8, i + 1) else if i = 8 then (7, 8) else (14 - i, 8)
def vrAt (s copy i : Nat) : Nat × Nat := if copy = 1 then (i / 3, s - 11 + i % 3) else (s - 11 + i % 3, i / 3)
def fmL (s copy k : Nat) : List (Nat × Nat) := (List.range k).map (fmAt s copy)
def vrL (s copy k : Nat) : List (Nat × Nat) := (List.range k).map (vrAt s copy)
theorem fmL_succ (s copy k : Nat) : fmL s copy (k + 1) = fmL s copy k ++ [fmAt s copy k] := by simp [fmL, List.range_succ]
theorem vrL_succ (s copy k : Nat) : vrL s copy (k + 1) = vrL s copy k ++ [vrAt s copy k] := by simp [vrL, List.range_succ]
theorem fmL_len (s copy k : Nat) : (fmL s copy k).length = k := by simp [fmL]
theorem vrL_len (s copy k : Nat) : (vrL s copy k).length = k := by simp [vrL]
end Go.Lay
namespace Go.Bs
open Go Go.RowKit
/-- A slice of the call's own is kept where another one grows. -/
theorem own_keep {w w' : World} {B : Nat} {e : TypeId} {sz : Nat} {v u u' : Value} {n : Nat} {xs : List Value} (h : w.ownsRow B e sz v n xs) (hk : Keep w u w' u') (hne : ∀ k, v.ownBlock = some k → u.ownBlock ≠ some k) : w'.ownsRow B e sz v n xs := by
  refine ⟨h.1, ?_⟩
  rcases h.2 with h0 | ⟨g, cap, cur, hv, hb, hg, hrest⟩
  · exact Or.inl h0
  · refine Or.inr ⟨g, cap, cur, hv, hb, (hk.block g (Array.getElem?_eq_some_iff.1 hg).1 (hne g (by rw [hv]; rfl))).trans hg, hrest⟩
theorem sep_keep {w w' : World} {B : Nat} {e : TypeId} {sz : Nat} {v u u' : Value} {n : Nat} {xs : List Value} (h : w.ownsRow B e sz v n xs) (hk : Keep w u w' u') (hne : ∀ k, v.ownBlock = some k → u.ownBlock ≠ some k) : ∀ k, v.ownBlock = some k → u'.ownBlock ≠ some k :=
  fun k hv => hk.own k (h.lt k hv).2 (hne k hv)
theorem own_addr {w : World} {B : Nat} {e : TypeId} {sz : Nat} {ao : Option Addr} {n c n' : Nat} {xs : List Value} (h : w.ownsRow B e sz (.slice ao n c) n' xs) {a : Addr} (ha : ao = some a) : B ≤ a.block := by
  rcases h.2 with ⟨hv, _⟩ | ⟨g, cap, cur, hv, hb, _⟩
  · subst ha
    cases hv
  · subst ha
    simp only [Value.slice.injEq, Option.some.injEq] at hv
    rw [hv.1]
    exact hb
end Go.Bs
namespace Go.Proofs.Ytjkpdhcnklgfbaa
open Go.RowKit Go.Bs Go.Qrv Go.Lay

/-- Two slices of points are returned. -/
def RetTwo (w : World) (p q : List (Nat × Nat)) (e : Ending) (w' : World) : Prop :=
  ∃ ao ca bo cb, e = .returned (.tuple #[.slice ao p.length ca, .slice bo q.length cb]) ∧ Pts w' ao p ∧ Pts w' bo q ∧ p.length ≤ ca ∧ q.length ≤ cb ∧ ca ≤ 9223372036854775807 ∧ cb ≤ 9223372036854775807 ∧ (∀ a, ao = some a → w.heap.size ≤ a.block) ∧ (∀ a, bo = some a → w.heap.size ≤ a.block) ∧ Ext w w'

theorem fm_cases {s i : Nat} (hs : 21 ≤ s) (hi : i < 15) :
    (i ≤ 5 ∧ fmAt s 0 i = (8, i) ∧ ∃ X : Nat, (s : Int) - 1 - (i : Int) = (X : Int) ∧ fmAt s 1 i = (X, 8)) ∨ (i = 6 ∧ fmAt s 0 i = (8, 7) ∧ ∃ X : Nat, (s : Int) - 1 - 6 = (X : Int) ∧ fmAt s 1 i = (X, 8)) ∨
    (i = 7 ∧ fmAt s 0 i = (8, 8) ∧ ∃ X : Nat, (s : Int) - 1 - 7 = (X : Int) ∧ fmAt s 1 i = (X, 8)) ∨ (i = 8 ∧ fmAt s 0 i = (7, 8) ∧ ∃ X : Nat, (s : Int) - 15 + 8 = (X : Int) ∧ fmAt s 1 i = (8, X)) ∨
    (8 < i ∧ ∃ Y : Nat, 14 - (i : Int) = (Y : Int) ∧ fmAt s 0 i = (Y, 8) ∧ ∃ X : Nat, (s : Int) - 15 + (i : Int) = (X : Int) ∧ fmAt s 1 i = (8, X)) := by
  by_cases h1 : i ≤ 5
  · refine .inl ⟨h1, ?_, s - 1 - i, by omega, ?_⟩
    · unfold fmAt; rw [if_neg (by decide), if_pos (by omega)]
    · unfold fmAt; rw [if_pos rfl, if_pos (by omega)]
  · by_cases h2 : i = 6
    · subst h2; exact .inr (.inl ⟨rfl, rfl, s - 1 - 6, by omega, rfl⟩)
    · by_cases h3 : i = 7
      · subst h3; exact .inr (.inr (.inl ⟨rfl, rfl, s - 1 - 7, by omega, rfl⟩))
      · by_cases h4 : i = 8
        · subst h4; exact .inr (.inr (.inr (.inl ⟨rfl, rfl, s - 15 + 8, by omega, rfl⟩)))
        · refine .inr (.inr (.inr (.inr ⟨by omega, 14 - i, by omega, ?_, s - 15 + i, by omega, ?_⟩)))
          · unfold fmAt; rw [if_neg (by decide), if_neg (by omega), if_neg (by omega), if_neg h4]
          · unfold fmAt; rw [if_pos rfl, if_neg (by omega)]


set_option maxRecDepth 20000 in
set_option maxHeartbeats 2000000 in
theorem formats_any (v : Int) (s : Nat) (ao : Option Addr) (m cap : Nat) (w : World) (hs : 21 ≤ s ∧ s ≤ 1000) :
    Calls Try.prog 45 #[.agg (layV v s ao m cap)] w (RetTwo w (fmL s 0 15) (fmL s 1 15)) := by
  unfold layV
  have HF0 := fun i => Lib.hid (fmL_succ s 0 i)
  have HF1 := fun i => Lib.hid (fmL_succ s 1 i)
  have HL0 := fun i => Lib.hid (fmL_len s 0 i)
  have HL1 := fun i => Lib.hid (fmL_len s 1 i)
  obtain ⟨W1, hW1⟩ : ∃ W1, W1 = w.alloc (.cells #[.int .i64 v, .int .i64 s, .slice ao m cap] 69) := ⟨_, rfl⟩
  have HBX : Hid (∀ V, Ext W1 V → V.cell? ⟨w.heap.size, 0, none⟩ = some (.int .i64 v) ∧ V.cell? ⟨w.heap.size, 1, none⟩ = some (.int .i64 s) ∧ V.cell? ⟨w.heap.size, 2, none⟩ = some (.slice ao m cap)) := by
    intro V h
    rw [hW1] at h
    exact box3 h
  have HX1 : Hid (Ext w W1) := by rw [hW1]; exact Ext.alloc _ _
  have HW1 := Lib.hid hW1
  clear hW1
  go_enter Try.func45, Try.ntmps45
  go_wp2_with fail
  rw [← HW1.out]
  go_loopw [2, 3, 4, 5] (fun p q _ ii wr => ∃ i : Nat, i ≤ 15 ∧ ii = .int .i64 i ∧ Hid (wr.ownsRow W1.heap.size 45 2 p (fmL s 0 i).length (pcells (fmL s 0 i))) ∧ Hid (wr.ownsRow W1.heap.size 45 2 q (fmL s 1 i).length (pcells (fmL s 1 i))) ∧ Hid (∀ k, q.ownBlock = some k → p.ownBlock ≠ some k) ∧ Hid (Ext W1 wr)) (fun _ _ _ ii _ => 15 - (intOf ii).toNat)
  case atStart => exact ⟨0, by omega, rfl, World.ownsRow_nil _ _ _ _, World.ownsRow_nil _ _ _ _, Lib.hid (fun k h => (by cases h)), Ext.refl _⟩
  case round =>
    obtain ⟨i, hi, rfl, HP, HQ, HS, HX⟩ := hrel
    obtain ⟨z0, z1, z2⟩ := HBX.out wr HX.out
    by_cases hlt : i < 15
    · have hl0 := (HL0 i).out
      have hl1 := (HL1 i).out
      have HLL0 := Lib.hid hl0
      have HLL1 := Lib.hid hl1
      have hb0 : (fmL s 0 i).length ≤ 15 := by omega
      have hb1 : (fmL s 1 i).length ≤ 15 := by omega
      have H0 := HF0 i
      have H1 := HF1 i
      clear hl0 hl1
      rcases fm_cases hs.1 hlt with ⟨c, e0, X, hX, e1⟩ | ⟨rfl, e0, X, hX, e1⟩ | ⟨rfl, e0, X, hX, e1⟩ | ⟨rfl, e0, X, hX, e1⟩ | ⟨c, Y, hY, e0, X, hX, e1⟩
      · have E0 := Lib.hid (H0.out.trans (by rw [e0]))
        have E1 := Lib.hid (H1.out.trans (by rw [e1]))
        clear e0 e1 H0 H1
        skip
        go_wp2_with (first | (at_builtin; (with_reducible show wpList _ _ _ (⟨some 21, _, _, _, _, _⟩ :: _) _ _); refine wpList_pushK rfl _ _ 51 rfl W1.heap.size 45 (.agg #[.int .i64 0, .int .i64 0]) 2 16 Try.infoPoint rfl (by decide) Try.underlying51 _ rfl _ _ HP.out [.int .i64 8, .int .i64 i] rfl rfl (by simp [Value.oneCell']) (by omega) (by omega) HX.out.size ?_; intro p4 w4 hown4 hk4; have HX4 : Hid (Ext W1 w4) := Below.trans HX.out (hk4.below HX.out.size (fun k2 h2 => (HP.out.lt k2 h2).1)); obtain ⟨z0, z1, z2⟩ := HBX.out w4 HX4.out; have HQ4 := Lib.hid (own_keep HQ.out hk4 HS.out); have HS4 := Lib.hid (sep_keep HQ.out hk4 HS.out); have HP4 := Lib.hid hown4; clear hown4 hk4) | (at_builtin; (with_reducible show wpList _ _ _ (⟨some 53, _, _, _, _, _⟩ :: _) _ _); refine wpList_pushK rfl _ _ 51 rfl W1.heap.size 45 (.agg #[.int .i64 0, .int .i64 0]) 2 16 Try.infoPoint rfl (by decide) Try.underlying51 _ rfl _ _ HQ4.out [.int .i64 X, .int .i64 8] rfl rfl (by simp [Value.oneCell']) (by omega) (by omega) HX4.out.size ?_; intro q5 w5 hown5 hk5; have HQ5 := Lib.hid hown5; have HK5 := Lib.hid hk5; clear hown5 hk5))
        have HX5 : Hid (Ext W1 w5) := Below.trans HX4.out (HK5.out.below HX4.out.size (fun k2 h2 => (HQ4.out.lt k2 h2).1))
        have HP5 : Hid (w5.ownsRow W1.heap.size 45 2 p4 (fmL s 0 (i + 1)).length (pcells (fmL s 0 (i + 1)))) := by
          show World.ownsRow _ _ _ _ _ _ _
          rw [E0.out, pcells_snoc, List.length_append]
          exact own_keep HP4.out HK5.out (fun k h1 h2 => HS4.out k h2 h1)
        have HS5 : Hid (∀ k, q5.ownBlock = some k → p4.ownBlock ≠ some k) := fun k h1 h2 => sep_keep HP4.out HK5.out (fun k h1 h2 => HS4.out k h2 h1) k h2 h1
        have HQ6 : Hid (w5.ownsRow W1.heap.size 45 2 q5 (fmL s 1 (i + 1)).length (pcells (fmL s 1 (i + 1)))) := by
          show World.ownsRow _ _ _ _ _ _ _
          rw [E1.out, pcells_snoc, List.length_append]
          exact HQ5.out
        clear HQ5 HK5
        exact ⟨⟨i + 1, by omega, by rw [Int.natCast_succ], HP5, HQ6, HS5, HX5⟩, by simp [intOf]; omega⟩
      · have E0 := Lib.hid (H0.out.trans (by rw [e0]))
        have E1 := Lib.hid (H1.out.trans (by rw [e1]))
        clear e0 e1 H0 H1
        skip
        go_wp2_with (first | (at_builtin; (with_reducible show wpList _ _ _ (⟨some 28, _, _, _, _, _⟩ :: _) _ _); refine wpList_pushK rfl _ _ 51 rfl W1.heap.size 45 (.agg #[.int .i64 0, .int .i64 0]) 2 16 Try.infoPoint rfl (by decide) Try.underlying51 _ rfl _ _ HP.out [.int .i64 8, .int .i64 7] rfl rfl (by simp [Value.oneCell']) (by omega) (by omega) HX.out.size ?_; intro p4 w4 hown4 hk4; have HX4 : Hid (Ext W1 w4) := Below.trans HX.out (hk4.below HX.out.size (fun k2 h2 => (HP.out.lt k2 h2).1)); obtain ⟨z0, z1, z2⟩ := HBX.out w4 HX4.out; have HQ4 := Lib.hid (own_keep HQ.out hk4 HS.out); have HS4 := Lib.hid (sep_keep HQ.out hk4 HS.out); have HP4 := Lib.hid hown4; clear hown4 hk4) | (at_builtin; (with_reducible show wpList _ _ _ (⟨some 53, _, _, _, _, _⟩ :: _) _ _); refine wpList_pushK rfl _ _ 51 rfl W1.heap.size 45 (.agg #[.int .i64 0, .int .i64 0]) 2 16 Try.infoPoint rfl (by decide) Try.underlying51 _ rfl _ _ HQ4.out [.int .i64 X, .int .i64 8] rfl rfl (by simp [Value.oneCell']) (by omega) (by omega) HX4.out.size ?_; intro q5 w5 hown5 hk5; have HQ5 := Lib.hid hown5; have HK5 := Lib.hid hk5; clear hown5 hk5))
        have HX5 : Hid (Ext W1 w5) := Below.trans HX4.out (HK5.out.below HX4.out.size (fun k2 h2 => (HQ4.out.lt k2 h2).1))
        have HP5 : Hid (w5.ownsRow W1.heap.size 45 2 p4 (fmL s 0 (6 + 1)).length (pcells (fmL s 0 (6 + 1)))) := by
          show World.ownsRow _ _ _ _ _ _ _
          rw [E0.out, pcells_snoc, List.length_append]
          exact own_keep HP4.out HK5.out (fun k h1 h2 => HS4.out k h2 h1)
        have HS5 : Hid (∀ k, q5.ownBlock = some k → p4.ownBlock ≠ some k) := fun k h1 h2 => sep_keep HP4.out HK5.out (fun k h1 h2 => HS4.out k h2 h1) k h2 h1
        have HQ6 : Hid (w5.ownsRow W1.heap.size 45 2 q5 (fmL s 1 (6 + 1)).length (pcells (fmL s 1 (6 + 1)))) := by
          show World.ownsRow _ _ _ _ _ _ _
          rw [E1.out, pcells_snoc, List.length_append]
          exact HQ5.out
        clear HQ5 HK5
        exact ⟨⟨6 + 1, by omega, rfl, HP5, HQ6, HS5, HX5⟩, by simp [intOf]⟩
      · have E0 := Lib.hid (H0.out.trans (by rw [e0]))
        have E1 := Lib.hid (H1.out.trans (by rw [e1]))
        clear e0 e1 H0 H1
        skip
        go_wp2_with (first | (at_builtin; (with_reducible show wpList _ _ _ (⟨some 35, _, _, _, _, _⟩ :: _) _ _); refine wpList_pushK rfl _ _ 51 rfl W1.heap.size 45 (.agg #[.int .i64 0, .int .i64 0]) 2 16 Try.infoPoint rfl (by decide) Try.underlying51 _ rfl _ _ HP.out [.int .i64 8, .int .i64 8] rfl rfl (by simp [Value.oneCell']) (by omega) (by omega) HX.out.size ?_; intro p4 w4 hown4 hk4; have HX4 : Hid (Ext W1 w4) := Below.trans HX.out (hk4.below HX.out.size (fun k2 h2 => (HP.out.lt k2 h2).1)); obtain ⟨z0, z1, z2⟩ := HBX.out w4 HX4.out; have HQ4 := Lib.hid (own_keep HQ.out hk4 HS.out); have HS4 := Lib.hid (sep_keep HQ.out hk4 HS.out); have HP4 := Lib.hid hown4; clear hown4 hk4) | (at_builtin; (with_reducible show wpList _ _ _ (⟨some 53, _, _, _, _, _⟩ :: _) _ _); refine wpList_pushK rfl _ _ 51 rfl W1.heap.size 45 (.agg #[.int .i64 0, .int .i64 0]) 2 16 Try.infoPoint rfl (by decide) Try.underlying51 _ rfl _ _ HQ4.out [.int .i64 X, .int .i64 8] rfl rfl (by simp [Value.oneCell']) (by omega) (by omega) HX4.out.size ?_; intro q5 w5 hown5 hk5; have HQ5 := Lib.hid hown5; have HK5 := Lib.hid hk5; clear hown5 hk5))
        have HX5 : Hid (Ext W1 w5) := Below.trans HX4.out (HK5.out.below HX4.out.size (fun k2 h2 => (HQ4.out.lt k2 h2).1))
        have HP5 : Hid (w5.ownsRow W1.heap.size 45 2 p4 (fmL s 0 (7 + 1)).length (pcells (fmL s 0 (7 + 1)))) := by
          show World.ownsRow _ _ _ _ _ _ _
          rw [E0.out, pcells_snoc, List.length_append]
          exact own_keep HP4.out HK5.out (fun k h1 h2 => HS4.out k h2 h1)
        have HS5 : Hid (∀ k, q5.ownBlock = some k → p4.ownBlock ≠ some k) := fun k h1 h2 => sep_keep HP4.out HK5.out (fun k h1 h2 => HS4.out k h2 h1) k h2 h1
        have HQ6 : Hid (w5.ownsRow W1.heap.size 45 2 q5 (fmL s 1 (7 + 1)).length (pcells (fmL s 1 (7 + 1)))) := by
          show World.ownsRow _ _ _ _ _ _ _
          rw [E1.out, pcells_snoc, List.length_append]
          exact HQ5.out
        clear HQ5 HK5
        exact ⟨⟨7 + 1, by omega, rfl, HP5, HQ6, HS5, HX5⟩, by simp [intOf]⟩
      · have E0 := Lib.hid (H0.out.trans (by rw [e0]))
        have E1 := Lib.hid (H1.out.trans (by rw [e1]))
        clear e0 e1 H0 H1
        skip
        go_wp2_with (first | (at_builtin; (with_reducible show wpList _ _ _ (⟨some 42, _, _, _, _, _⟩ :: _) _ _); refine wpList_pushK rfl _ _ 51 rfl W1.heap.size 45 (.agg #[.int .i64 0, .int .i64 0]) 2 16 Try.infoPoint rfl (by decide) Try.underlying51 _ rfl _ _ HP.out [.int .i64 7, .int .i64 8] rfl rfl (by simp [Value.oneCell']) (by omega) (by omega) HX.out.size ?_; intro p4 w4 hown4 hk4; have HX4 : Hid (Ext W1 w4) := Below.trans HX.out (hk4.below HX.out.size (fun k2 h2 => (HP.out.lt k2 h2).1)); obtain ⟨z0, z1, z2⟩ := HBX.out w4 HX4.out; have HQ4 := Lib.hid (own_keep HQ.out hk4 HS.out); have HS4 := Lib.hid (sep_keep HQ.out hk4 HS.out); have HP4 := Lib.hid hown4; clear hown4 hk4) | (at_builtin; (with_reducible show wpList _ _ _ (⟨some 62, _, _, _, _, _⟩ :: _) _ _); refine wpList_pushK rfl _ _ 51 rfl W1.heap.size 45 (.agg #[.int .i64 0, .int .i64 0]) 2 16 Try.infoPoint rfl (by decide) Try.underlying51 _ rfl _ _ HQ4.out [.int .i64 8, .int .i64 X] rfl rfl (by simp [Value.oneCell']) (by omega) (by omega) HX4.out.size ?_; intro q5 w5 hown5 hk5; have HQ5 := Lib.hid hown5; have HK5 := Lib.hid hk5; clear hown5 hk5))
        have HX5 : Hid (Ext W1 w5) := Below.trans HX4.out (HK5.out.below HX4.out.size (fun k2 h2 => (HQ4.out.lt k2 h2).1))
        have HP5 : Hid (w5.ownsRow W1.heap.size 45 2 p4 (fmL s 0 (8 + 1)).length (pcells (fmL s 0 (8 + 1)))) := by
          show World.ownsRow _ _ _ _ _ _ _
          rw [E0.out, pcells_snoc, List.length_append]
          exact own_keep HP4.out HK5.out (fun k h1 h2 => HS4.out k h2 h1)
        have HS5 : Hid (∀ k, q5.ownBlock = some k → p4.ownBlock ≠ some k) := fun k h1 h2 => sep_keep HP4.out HK5.out (fun k h1 h2 => HS4.out k h2 h1) k h2 h1
        have HQ6 : Hid (w5.ownsRow W1.heap.size 45 2 q5 (fmL s 1 (8 + 1)).length (pcells (fmL s 1 (8 + 1)))) := by
          show World.ownsRow _ _ _ _ _ _ _
          rw [E1.out, pcells_snoc, List.length_append]
          exact HQ5.out
        clear HQ5 HK5
        exact ⟨⟨8 + 1, by omega, rfl, HP5, HQ6, HS5, HX5⟩, by simp [intOf]⟩
      · have E0 := Lib.hid (H0.out.trans (by rw [e0]))
        have E1 := Lib.hid (H1.out.trans (by rw [e1]))
        clear e0 e1 H0 H1
        skip
        go_wp2_with (first | (at_builtin; (with_reducible show wpList _ _ _ (⟨some 13, _, _, _, _, _⟩ :: _) _ _); refine wpList_pushK rfl _ _ 51 rfl W1.heap.size 45 (.agg #[.int .i64 0, .int .i64 0]) 2 16 Try.infoPoint rfl (by decide) Try.underlying51 _ rfl _ _ HP.out [.int .i64 Y, .int .i64 8] rfl rfl (by simp [Value.oneCell']) (by omega) (by omega) HX.out.size ?_; intro p4 w4 hown4 hk4; have HX4 : Hid (Ext W1 w4) := Below.trans HX.out (hk4.below HX.out.size (fun k2 h2 => (HP.out.lt k2 h2).1)); obtain ⟨z0, z1, z2⟩ := HBX.out w4 HX4.out; have HQ4 := Lib.hid (own_keep HQ.out hk4 HS.out); have HS4 := Lib.hid (sep_keep HQ.out hk4 HS.out); have HP4 := Lib.hid hown4; clear hown4 hk4) | (at_builtin; (with_reducible show wpList _ _ _ (⟨some 62, _, _, _, _, _⟩ :: _) _ _); refine wpList_pushK rfl _ _ 51 rfl W1.heap.size 45 (.agg #[.int .i64 0, .int .i64 0]) 2 16 Try.infoPoint rfl (by decide) Try.underlying51 _ rfl _ _ HQ4.out [.int .i64 8, .int .i64 X] rfl rfl (by simp [Value.oneCell']) (by omega) (by omega) HX4.out.size ?_; intro q5 w5 hown5 hk5; have HQ5 := Lib.hid hown5; have HK5 := Lib.hid hk5; clear hown5 hk5))
        have HX5 : Hid (Ext W1 w5) := Below.trans HX4.out (HK5.out.below HX4.out.size (fun k2 h2 => (HQ4.out.lt k2 h2).1))
        have HP5 : Hid (w5.ownsRow W1.heap.size 45 2 p4 (fmL s 0 (i + 1)).length (pcells (fmL s 0 (i + 1)))) := by
          show World.ownsRow _ _ _ _ _ _ _
          rw [E0.out, pcells_snoc, List.length_append]
          exact own_keep HP4.out HK5.out (fun k h1 h2 => HS4.out k h2 h1)
        have HS5 : Hid (∀ k, q5.ownBlock = some k → p4.ownBlock ≠ some k) := fun k h1 h2 => sep_keep HP4.out HK5.out (fun k h1 h2 => HS4.out k h2 h1) k h2 h1
        have HQ6 : Hid (w5.ownsRow W1.heap.size 45 2 q5 (fmL s 1 (i + 1)).length (pcells (fmL s 1 (i + 1)))) := by
          show World.ownsRow _ _ _ _ _ _ _
          rw [E1.out, pcells_snoc, List.length_append]
          exact HQ5.out
        clear HQ5 HK5
        exact ⟨⟨i + 1, by omega, by rw [Int.natCast_succ], HP5, HQ6, HS5, HX5⟩, by simp [intOf]; omega⟩
    · obtain rfl : i = 15 := by omega
      have hl0 := (HL0 15).out
      have hl1 := (HL1 15).out
      go_wp2_with fail
      go_ret2
      obtain ⟨a0, c0, h0, h1, h2, h3⟩ := Pts.own HP.out
      obtain ⟨b0, d0, k0, k1, k2, k3⟩ := Pts.own HQ.out
      have HP2 := HP.out
      have HQ2 := HQ.out
      rw [h0] at HP2
      rw [k0] at HQ2
      rw [h0, k0]
      exact ⟨a0, c0, b0, d0, rfl, h3, k3, h1, k1, h2, k2, fun a e => Nat.le_trans HX1.out.size (own_addr HP2 e), fun a e => Nat.le_trans HX1.out.size (own_addr HQ2 e), HX1.out.trans HX.out⟩

theorem vr_at (s i : Nat) (hs : 45 ≤ s) : ∃ F N : Nat, (s : Int) - 11 + (i : Int) % 3 = (F : Int) ∧ (i : Int) / 3 = (N : Int) ∧ vrAt s 0 i = (F, N) ∧ vrAt s 1 i = (N, F) :=
  ⟨s - 11 + i % 3, i / 3, by omega, by omega, rfl, rfl⟩

set_option maxRecDepth 20000 in
set_option maxHeartbeats 2000000 in
theorem versions_any (v : Int) (s : Nat) (ao : Option Addr) (m cap : Nat) (w : World) (hs : 45 ≤ s ∧ s ≤ 1000) :
    Calls Try.prog 48 #[.agg (layV v s ao m cap)] w (RetTwo w (vrL s 0 18) (vrL s 1 18)) := by
  unfold layV
  have HF0 := fun i => Lib.hid (vrL_succ s 0 i)
  have HF1 := fun i => Lib.hid (vrL_succ s 1 i)
  have HL0 := fun i => Lib.hid (vrL_len s 0 i)
  have HL1 := fun i => Lib.hid (vrL_len s 1 i)
  obtain ⟨W1, hW1⟩ : ∃ W1, W1 = w.alloc (.cells #[.int .i64 v, .int .i64 s, .slice ao m cap] 69) := ⟨_, rfl⟩
  have HBX : Hid (∀ V, Ext W1 V → V.cell? ⟨w.heap.size, 0, none⟩ = some (.int .i64 v) ∧ V.cell? ⟨w.heap.size, 1, none⟩ = some (.int .i64 s) ∧ V.cell? ⟨w.heap.size, 2, none⟩ = some (.slice ao m cap)) := by
    intro V h
    rw [hW1] at h
    exact box3 h
  have HX1 : Hid (Ext w W1) := by rw [hW1]; exact Ext.alloc _ _
  have HW1 := Lib.hid hW1
  clear hW1
  go_enter Try.func48, Try.ntmps48
  go_wp2_with fail
  rw [← HW1.out]
  go_loopw [2, 3, 4, 5, 6, 7] (fun p q _ _ _ ii wr => ∃ i : Nat, i ≤ 18 ∧ ii = .int .i64 i ∧ Hid (wr.ownsRow W1.heap.size 45 2 p (vrL s 0 i).length (pcells (vrL s 0 i))) ∧ Hid (wr.ownsRow W1.heap.size 45 2 q (vrL s 1 i).length (pcells (vrL s 1 i))) ∧ Hid (∀ k, q.ownBlock = some k → p.ownBlock ≠ some k) ∧ Hid (Ext W1 wr)) (fun _ _ _ _ _ ii _ => 18 - (intOf ii).toNat)
  case atStart => exact ⟨0, by omega, rfl, World.ownsRow_nil _ _ _ _, World.ownsRow_nil _ _ _ _, Lib.hid (fun k h => (by cases h)), Ext.refl _⟩
  case round =>
    obtain ⟨i, hi, rfl, HP, HQ, HS, HX⟩ := hrel
    obtain ⟨z0, z1, z2⟩ := HBX.out wr HX.out
    by_cases hlt : i < 18
    · have hl0 := (HL0 i).out
      have hl1 := (HL1 i).out
      have HLL0 := Lib.hid hl0
      have HLL1 := Lib.hid hl1
      have hb0 : (vrL s 0 i).length ≤ 18 := by omega
      have hb1 : (vrL s 1 i).length ≤ 18 := by omega
      have H0 := HF0 i
      have H1 := HF1 i
      clear hl0 hl1
      obtain ⟨F, N, hF, hN, e0, e1⟩ := vr_at s i hs.1
      have E0 := Lib.hid (H0.out.trans (by rw [e0]))
      have E1 := Lib.hid (H1.out.trans (by rw [e1]))
      clear e0 e1 H0 H1
      skip
      go_wp2_with (first | (at_builtin; (with_reducible show wpList _ _ _ (⟨some 23, _, _, _, _, _⟩ :: _) _ _); refine wpList_pushK rfl _ _ 51 rfl W1.heap.size 45 (.agg #[.int .i64 0, .int .i64 0]) 2 16 Try.infoPoint rfl (by decide) Try.underlying51 _ rfl _ _ HP.out [.int .i64 F, .int .i64 N] rfl rfl (by simp [Value.oneCell']) (by omega) (by omega) HX.out.size ?_; intro p4 w4 hown4 hk4; have HX4 : Hid (Ext W1 w4) := Below.trans HX.out (hk4.below HX.out.size (fun k2 h2 => (HP.out.lt k2 h2).1)); obtain ⟨z0, z1, z2⟩ := HBX.out w4 HX4.out; have HQ4 := Lib.hid (own_keep HQ.out hk4 HS.out); have HS4 := Lib.hid (sep_keep HQ.out hk4 HS.out); have HP4 := Lib.hid hown4; clear hown4 hk4) | (at_builtin; (with_reducible show wpList _ _ _ (⟨some 29, _, _, _, _, _⟩ :: _) _ _); refine wpList_pushK rfl _ _ 51 rfl W1.heap.size 45 (.agg #[.int .i64 0, .int .i64 0]) 2 16 Try.infoPoint rfl (by decide) Try.underlying51 _ rfl _ _ HQ4.out [.int .i64 N, .int .i64 F] rfl rfl (by simp [Value.oneCell']) (by omega) (by omega) HX4.out.size ?_; intro q5 w5 hown5 hk5; have HQ5 := Lib.hid hown5; have HK5 := Lib.hid hk5; clear hown5 hk5))
      have HX5 : Hid (Ext W1 w5) := Below.trans HX4.out (HK5.out.below HX4.out.size (fun k2 h2 => (HQ4.out.lt k2 h2).1))
      have HP5 : Hid (w5.ownsRow W1.heap.size 45 2 p4 (vrL s 0 (i + 1)).length (pcells (vrL s 0 (i + 1)))) := by
        show World.ownsRow _ _ _ _ _ _ _
        rw [E0.out, pcells_snoc, List.length_append]
        exact own_keep HP4.out HK5.out (fun k h1 h2 => HS4.out k h2 h1)
      have HS5 : Hid (∀ k, q5.ownBlock = some k → p4.ownBlock ≠ some k) := fun k h1 h2 => sep_keep HP4.out HK5.out (fun k h1 h2 => HS4.out k h2 h1) k h2 h1
      have HQ6 : Hid (w5.ownsRow W1.heap.size 45 2 q5 (vrL s 1 (i + 1)).length (pcells (vrL s 1 (i + 1)))) := by
        show World.ownsRow _ _ _ _ _ _ _
        rw [E1.out, pcells_snoc, List.length_append]
        exact HQ5.out
      clear HQ5 HK5
      exact ⟨⟨i + 1, by omega, by rw [Int.natCast_succ], HP5, HQ6, HS5, HX5⟩, by simp [intOf]; omega⟩
    · obtain rfl : i = 18 := by omega
      have hl0 := (HL0 18).out
      have hl1 := (HL1 18).out
      go_wp2_with fail
      go_ret2
      obtain ⟨a0, c0, h0, h1, h2, h3⟩ := Pts.own HP.out
      obtain ⟨b0, d0, k0, k1, k2, k3⟩ := Pts.own HQ.out
      have HP2 := HP.out
      have HQ2 := HQ.out
      rw [h0] at HP2
      rw [k0] at HQ2
      rw [h0, k0]
      exact ⟨a0, c0, b0, d0, rfl, h3, k3, h1, k1, h2, k2, fun a e => Nat.le_trans HX1.out.size (own_addr HP2 e), fun a e => Nat.le_trans HX1.out.size (own_addr HQ2 e), HX1.out.trans HX.out⟩

end Go.Proofs.Ytjkpdhcnklgfbaa

namespace Go.Lay
open Go.Bs
def posOf (k : Nat) (p : Nat × Nat) : Nat := p.2 * k + p.1
/-- The first i bits of a number are written into modules. -/
def wrN (k : Nat) (ps : List (Nat × Nat)) (word : Int) (xs : List Bool) : Nat → List Bool
  | 0 => xs
  | i + 1 => match ps[i]? with
    | some p => (wrN k ps word xs i).set (posOf k p) (bitOf word i)
    | none => wrN k ps word xs i
theorem wrN_succ {k : Nat} {ps : List (Nat × Nat)} {word : Int} {xs : List Bool} {i : Nat} {p : Nat × Nat} (h : ps[i]? = some p) : wrN k ps word xs (i + 1) = (wrN k ps word xs i).set (posOf k p) (bitOf word i) := by
  show (match ps[i]? with | some p => (wrN k ps word xs i).set (posOf k p) (bitOf word i) | none => wrN k ps word xs i) = _
  rw [h]
theorem wrN_len (k : Nat) (ps : List (Nat × Nat)) (word : Int) (xs : List Bool) : ∀ i, (wrN k ps word xs i).length = xs.length
  | 0 => rfl
  | i + 1 => by
    unfold wrN
    split
    · rw [List.length_set, wrN_len]
    · exact wrN_len k ps word xs i
/-- The number that the first i modules hold. -/
def rdN (k : Nat) (ps : List (Nat × Nat)) (xs : List Bool) : Nat → Nat
  | 0 => 0
  | i + 1 => rdN k ps xs i + (match ps[i]? with | some p => if xs.getD (posOf k p) false = true then 2 ^ i else 0 | none => 0)
theorem rdN_succ {k : Nat} {ps : List (Nat × Nat)} {xs : List Bool} {i : Nat} {p : Nat × Nat} (h : ps[i]? = some p) : rdN k ps xs (i + 1) = rdN k ps xs i + if xs.getD (posOf k p) false = true then 2 ^ i else 0 := by
  show rdN k ps xs i + (match ps[i]? with | some p => if xs.getD (posOf k p) false = true then 2 ^ i else 0 | none => 0) = _
  rw [h]
theorem rdN_lt (k : Nat) (ps : List (Nat × Nat)) (xs : List Bool) : ∀ i, rdN k ps xs i < 2 ^ i
  | 0 => Nat.one_pos
  | i + 1 => by
    have := rdN_lt k ps xs i
    unfold rdN
    rw [Nat.pow_succ]
    generalize 2 ^ i = P at *
    split
    · split <;> omega
    · omega
end Go.Lay
namespace Go.Bs
open Go Go.RowKit
theorem grown_set (w : World) (g i : Nat) (v : Value) : w.grownBy (w.setCell ⟨g, i, none⟩ v) (some g) :=
  ⟨rfl, rfl, rfl, Nat.le_of_eq (by rw [World.size_setCell]), fun k _ hk => heap_set w g i v k (fun e => hk (by rw [e]))⟩
theorem grown_trans {a b c : World} {r : Option Nat} (h : a.grownBy b r) (k : b.grownBy c r) : a.grownBy c r :=
  ⟨k.os.trans h.os, k.tape.trans h.tape, k.output.trans h.output, Nat.le_trans h.size k.size, fun i hi hne => (k.block i (Nat.lt_of_lt_of_le hi h.size) hne).trans (h.block i hi hne)⟩
theorem grown_ext {a b : World} (h : Ext a b) (r : Option Nat) : a.grownBy b r := ⟨h.os, h.tape, h.output, Below.size h, fun k hk _ => Below.block h k hk⟩
theorem grown_cell {a b : World} {g : Nat} (h : a.grownBy b (some g)) {q : Addr} {v : Value} (hc : a.cell? q = some v) (hne : q.block ≠ g) : b.cell? q = some v := h.cell hc (fun e => hne (Option.some.inj e))
theorem ext_grown {a b c : World} {g : Nat} (h : Ext a b) (k : b.grownBy c (some g)) (hg : a.heap.size ≤ g) : Ext a c :=
  ⟨k.os.trans h.os, k.tape.trans h.tape, k.output.trans h.output, Nat.le_trans h.size k.size, fun i hi => (k.block i (Nat.lt_of_lt_of_le hi h.size) (fun e => by have := Option.some.inj e; omega)).trans (Below.block h i hi)⟩
theorem bools_set (l : List Bool) (i : Nat) (b : Bool) : bools (l.set i b) = (bools l).set i (.bool b) := by unfold bools; rw [List.map_set]
theorem pt2 {w : World} {g : Nat} {u v : Value} (h : Row w (some ⟨g, 0, none⟩) [u, v]) : w.cell? ⟨g, 0, none⟩ = some u ∧ w.cell? ⟨g, 1, none⟩ = some v := by
  obtain ⟨a, ha, h0⟩ := h.at (i := 0) rfl
  obtain ⟨b, hb, h1⟩ := h.at (i := 1) rfl
  cases ha
  cases hb
  rw [add_zero_off] at h0 h1
  exact ⟨h0, h1⟩
end Go.Bs
namespace Go.Proofs.Ytjkpdhcnklgfbaa
open Go.RowKit Go.Bs Go.Qrv Go.Lay


set_option maxRecDepth 20000 in
set_option maxHeartbeats 2000000 in
theorem write_any (v : Int) (k : Nat) (ao : Option Addr) (m c : Nat) (W H : Int) (B h Q cap : Nat) (xs : List Bool) (po : Option Addr) (pc : Nat) (ps : List (Nat × Nat)) (word : Int) (w : World)
    (hk : 21 ≤ k ∧ k ≤ 177) (hQ : k * k = Q) (hps : ∀ p ∈ ps, p.1 < k ∧ p.2 < k) (hpl : ps.length ≤ 60) (hpc : ps.length ≤ pc ∧ pc ≤ 9223372036854775807)
    (hp : Pts w po ps) (hpb : ∀ a, po = some a → a.block ≠ h) (ho : w.ownsRow B 4 1 (.slice (some ⟨h, 0, none⟩) Q cap) Q (bools xs)) :
    Calls Try.prog 46 #[.agg (layV v k ao m c), .agg (matV W H (some ⟨h, 0, none⟩) Q cap), .slice po ps.length pc, .int .i64 word] w fun e w' =>
      (∃ u, e = .returned u) ∧ w'.ownsRow B 4 1 (.slice (some ⟨h, 0, none⟩) Q cap) Q (bools (wrN k ps word xs ps.length)) ∧ w.grownBy w' (some h) := by
  have hh : h < w.heap.size := by
    obtain ⟨h', c', e, hb, hl, _⟩ := own_ptr ho (by have := Nat.mul_le_mul hk.1 hk.1; omega)
    simp only [Value.slice.injEq, Option.some.injEq, Addr.mk.injEq, and_true, true_and] at e
    omega
  have hxl : xs.length = Q := by have := ho.1; rw [length_bools] at this; omega
  have HXL : ∀ i, Hid ((bools (wrN k ps word xs i)).length = Q) := fun i => by show _ = _; rw [length_bools, wrN_len, hxl]
  have HIA := fun (x y : Nat) (hx : x < k) (hy : y < k) (V : World) => Lib.hid (index_any v k x y ao m c V (by omega) (by omega) (by omega))
  have HPS := Lib.hid hps
  have HWS := fun (i : Nat) (p : Nat × Nat) (h : ps[i]? = some p) => Lib.hid (wrN_succ (k := k) (word := word) (xs := xs) h)
  have HW0 : Hid (wrN k ps word xs 0 = xs) := rfl
  have HQ := Lib.hid hQ
  have hQb : 441 ≤ Q ∧ Q ≤ 31329 := by rw [← hQ]; exact ⟨Nat.mul_le_mul hk.1 hk.1, Nat.mul_le_mul hk.2 hk.2⟩
  have HPT := Lib.hid hp
  have HPB := Lib.hid hpb
  have HO := Lib.hid ho
  have HPE : ∀ i, i < ps.length → ∃ p, ps[i]? = some p := fun i hi => ⟨_, List.getElem?_eq_getElem hi⟩
  have HPE2 := Lib.hid HPE
  clear hps hQ hp hpb ho hxl HPE
  obtain ⟨W2, hW2⟩ : ∃ W2, W2 = (w.alloc (.cells #[.int .i64 v, .int .i64 k, .slice ao m c] 69)).alloc (.cells #[.int .i64 W, .int .i64 H, .slice (some ⟨h, 0, none⟩) Q cap] 24) := ⟨_, rfl⟩
  have HX2 : Hid (Ext w W2) := by rw [hW2]; exact (Ext.alloc _ _).trans (Ext.alloc _ _)
  have HBX : Hid (∀ V, W2.grownBy V (some h) → V.cell? ⟨w.heap.size, 0, none⟩ = some (.int .i64 v) ∧ V.cell? ⟨w.heap.size, 1, none⟩ = some (.int .i64 k) ∧ V.cell? ⟨w.heap.size, 2, none⟩ = some (.slice ao m c) ∧ V.cell? ⟨w.heap.size + 1, 2, none⟩ = some (.slice (some ⟨h, 0, none⟩) Q cap)) := by
    intro V hv
    have hne : w.heap.size ≠ h := by omega
    have hne2 : w.heap.size + 1 ≠ h := by omega
    have e1 := box3 (Ext.alloc (w.alloc (.cells #[.int .i64 v, .int .i64 k, .slice ao m c] 69)) (.cells #[.int .i64 W, .int .i64 H, .slice (some ⟨h, 0, none⟩) Q cap] 24))
    have e2 := box3 (Ext.refl ((w.alloc (.cells #[.int .i64 v, .int .i64 k, .slice ao m c] 69)).alloc (.cells #[.int .i64 W, .int .i64 H, .slice (some ⟨h, 0, none⟩) Q cap] 24)))
    rw [← hW2] at e1 e2
    rw [World.size_alloc] at e2
    exact ⟨grown_cell hv e1.1 hne, grown_cell hv e1.2.1 hne, grown_cell hv e1.2.2 hne, grown_cell hv e2.2.2 hne2⟩
  have HHS : Hid (h < W2.heap.size) := Nat.lt_of_lt_of_le hh HX2.out.size
  have HW2 := Lib.hid hW2
  clear hW2 hh
  unfold layV at HIA ⊢
  unfold matV
  obtain ⟨n, hn⟩ : ∃ n, n = ps.length := ⟨_, rfl⟩
  rw [← hn] at hpl hpc HPE2 ⊢
  clear hn
  go_enter Try.func46, Try.ntmps46
  go_wp2_with fail
  rw [← HW2.out]
  go_loopw [8, 9, 12] (fun _ _ ii wr => ∃ i : Nat, i ≤ n ∧ ii = .int .i64 i ∧ Hid (wr.ownsRow B 4 1 (.slice (some ⟨h, 0, none⟩) Q cap) Q (bools (wrN k ps word xs i))) ∧ Hid (W2.grownBy wr (some h))) (fun _ _ ii _ => n - (intOf ii).toNat)
  case atStart => exact ⟨0, by omega, rfl, by rw [HW0.out]; exact own_extN HO.out HX2.out, World.grownBy.refl _ _⟩
  case round =>
    obtain ⟨i, hi, rfl, HOWN, HG⟩ := hrel
    by_cases hlt : i < n
    · obtain ⟨p, hp⟩ := HPE2.out i hlt
      have hpk := HPS.out p (List.mem_of_getElem? hp)
      have HWi := HWS i p hp
      obtain ⟨b, off, rfl, hc1, hc2⟩ := HPT.out i p hp
      have hbne := HPB.out ⟨b, off, none⟩ rfl
      have g1 := grown_cell HG.out (HX2.out.cell hc1) hbne
      have g2 := grown_cell HG.out (HX2.out.cell hc2) hbne
      clear hp hc1 hc2 hbne
      obtain ⟨x, y⟩ := p
      simp only at hpk g1 g2 HWi
      have HIX := HIA x y hpk.1 hpk.2
      obtain ⟨zi, hzi⟩ : ∃ zi, zi = posOf k (x, y) := ⟨_, rfl⟩
      have HZI : Hid ((y : Int) * (k : Int) + (x : Int) = (zi : Int)) := by rw [hzi]; show _ = _; unfold posOf; rw [Int.natCast_add, Int.natCast_mul]
      have hzQ : zi < Q := by
        rw [hzi, ← HQ.out]
        have h1 : (y + 1) * k ≤ k * k := Nat.mul_le_mul_right k hpk.2
        rw [Nat.add_mul] at h1
        show y * k + x < k * k
        omega
      rw [← hzi] at HWi
      rw [HZI.out] at HIX
      clear hzi
      have hzI : (zi : Int) < (Q : Int) := by omega
      go_upto_region 4 with fail
      obtain ⟨W3, hW3⟩ : ∃ W3, W3 = wr.alloc (.cells #[.int .i64 x, .int .i64 y] 45) := ⟨_, rfl⟩
      rw [← hW3]
      have hx3 : Ext wr W3 := by rw [hW3]; exact Ext.alloc _ _
      have hG3 : W2.grownBy W3 (some h) := grown_trans HG.out (grown_ext hx3 _)
      have hhr : h < wr.heap.size := Nat.lt_of_lt_of_le HHS.out HG.out.size
      have e3 := pt2 (Row.lit wr [.int .i64 x, .int .i64 y] 45)
      rw [← hW3] at e3
      have HO3 := Lib.hid (own_extN HOWN.out hx3)
      have b0 := fun V (hv : W3.grownBy V (some h)) => (HBX.out V (grown_trans hG3 hv)).1
      have b1 := fun V (hv : W3.grownBy V (some h)) => (HBX.out V (grown_trans hG3 hv)).2.1
      have b2 := fun V (hv : W3.grownBy V (some h)) => (HBX.out V (grown_trans hG3 hv)).2.2.1
      have b3 := fun V (hv : W3.grownBy V (some h)) => (HBX.out V (grown_trans hG3 hv)).2.2.2
      have b4 := fun V (hv : W3.grownBy V (some h)) => grown_cell hv e3.1 (show wr.heap.size ≠ h by omega)
      have b5 := fun V (hv : W3.grownBy V (some h)) => grown_cell hv e3.2 (show wr.heap.size ≠ h by omega)
      have HG3 := Lib.hid hG3
      clear hx3 e3 g1 g2 hW3 hG3
      refine wp_region_held_drew (S := fun V => W3.grownBy V (some h)) (by kernel_rfl) (grown_ext (Ext.drew _) _) (fun hcur => ?_)
      skip
      refine wpAnyH_take (i := 0) (v := ?_) rfl (by kernel_rfl) (by kernel_rfl) (by kernel_rfl) (fun _ _ _ h => h) (Or.inl ⟨by rfl, ?_⟩) (by assumption) ?_
      rotate_left
      · (intro w hSw; try dsimp only at hSw); go_simp; try with_reducible rfl
      simp only [List.getElem_toArray, List.getElem_cons_zero, Act.put, List.setIfInBounds_toArray, List.set_cons_zero, List.set_cons_succ]
      skip
      refine wpAnyH_take (i := 1) (v := ?_) rfl (by kernel_rfl) (by kernel_rfl) (by kernel_rfl) (fun _ _ _ h => h) (Or.inl ⟨by rfl, ?_⟩) (by assumption) ?_
      rotate_left
      · (intro w hSw; try dsimp only at hSw); go_simp; try with_reducible rfl
      simp only [List.getElem_toArray, List.getElem_cons_zero, List.getElem_cons_succ, Act.put, List.setIfInBounds_toArray, List.set_cons_zero, List.set_cons_succ]
      skip
      refine wpAnyH_take (i := 2) (v := ?_) rfl (by kernel_rfl) (by kernel_rfl) (by kernel_rfl) (fun _ _ _ h => h) (Or.inl ⟨by rfl, ?_⟩) (by assumption) ?_
      rotate_left
      · (intro w hSw; try dsimp only at hSw); go_simp; try with_reducible rfl
      simp only [List.getElem_toArray, List.getElem_cons_zero, List.getElem_cons_succ, Act.put, List.setIfInBounds_toArray, List.set_cons_zero, List.set_cons_succ]
      skip
      refine wpAnyH_take (i := 3) (v := ?_) rfl (by kernel_rfl) (by kernel_rfl) (by kernel_rfl) (fun _ _ _ h => h) (Or.inl ⟨by rfl, ?_⟩) (by assumption) ?_
      rotate_left
      · (intro w hSw; try dsimp only at hSw); go_simp; try with_reducible rfl
      simp only [List.getElem_toArray, List.getElem_cons_zero, List.getElem_cons_succ, Act.put, List.setIfInBounds_toArray, List.set_cons_zero, List.set_cons_succ]
      skip
      refine wpAnyH_take (i := 5) (v := ?_) rfl (by kernel_rfl) (by kernel_rfl) (by kernel_rfl) (fun _ _ _ h => h) (Or.inl ⟨by rfl, ?_⟩) (by assumption) ?_
      rotate_left
      · (intro w hSw; try dsimp only at hSw); go_simp; try with_reducible rfl
      simp only [List.getElem_toArray, List.getElem_cons_zero, List.getElem_cons_succ, Act.put, List.setIfInBounds_toArray, List.set_cons_zero, List.set_cons_succ]
      skip
      refine wpAnyH_take (i := 6) (v := ?_) rfl (by kernel_rfl) (by kernel_rfl) (by kernel_rfl) (fun _ _ _ h => h) (Or.inl ⟨by rfl, ?_⟩) (by assumption) ?_
      rotate_left
      · (intro w hSw; try dsimp only at hSw); go_simp; try with_reducible rfl
      simp only [List.getElem_toArray, List.getElem_cons_zero, List.getElem_cons_succ, Act.put, List.setIfInBounds_toArray, List.set_cons_zero, List.set_cons_succ]
      skip
      refine wpAnyH_take (i := 7) (v := ?_) rfl (by kernel_rfl) (by kernel_rfl) (by kernel_rfl) (fun _ _ _ h => h) (Or.inl ⟨by rfl, ?_⟩) (by assumption) ?_
      rotate_left
      · (intro w hSw; try dsimp only at hSw); go_simp; try with_reducible rfl
      simp only [List.getElem_toArray, List.getElem_cons_zero, List.getElem_cons_succ, Act.put, List.setIfInBounds_toArray, List.set_cons_zero, List.set_cons_succ]
      skip
      refine wpAnyH_take (i := 8) (v := ?_) rfl (by kernel_rfl) (by kernel_rfl) (by kernel_rfl) (fun _ _ _ h => h) (Or.inl ⟨by rfl, ?_⟩) (by assumption) ?_
      rotate_left
      · (intro w hSw; try dsimp only at hSw); go_simp; try with_reducible rfl
      simp only [List.getElem_toArray, List.getElem_cons_zero, List.getElem_cons_succ, Act.put, List.setIfInBounds_toArray, List.set_cons_zero, List.set_cons_succ]
      skip
      refine wpAnyH_take (i := 9) (v := ?_) rfl (by kernel_rfl) (by kernel_rfl) (by kernel_rfl) (fun _ _ _ h => h) (Or.inl ⟨by rfl, ?_⟩) (by assumption) ?_
      rotate_left
      · (intro w hSw; try dsimp only at hSw); go_simp; try with_reducible rfl
      simp only [List.getElem_toArray, List.getElem_cons_zero, List.getElem_cons_succ, Act.put, List.setIfInBounds_toArray, List.set_cons_zero, List.set_cons_succ]
      refine wpAnyH_ready (rs := [4]) (by kernel_rfl) (by simp) ?_
      refine AllReadyH.cons rfl (fun K hK => ?_) AllReadyH.nil
      go_simp
      go_at_call 62
      (with_reducible refine (HIX _).out.mono ?_)
      rintro e w4 ⟨rfl, hx4⟩
      have hS4 : W3.grownBy w4 (some h) := grown_trans hcur (grown_ext hx4 _)
      go_wp2_with fail
      refine hK.out _ _ hS4 (fun _ => ?_)
      clear hK K
      skip
      refine wpAnyH_take (i := 10) (v := ?_) rfl (by kernel_rfl) (by kernel_rfl) (by kernel_rfl) (fun _ _ _ h => h) (Or.inl ⟨by rfl, ?_⟩) (by assumption) ?_
      rotate_left
      · (intro w hSw; try dsimp only at hSw); go_simp; try with_reducible rfl
      simp only [List.getElem_toArray, List.getElem_cons_zero, List.getElem_cons_succ, Act.put, List.setIfInBounds_toArray, List.set_cons_zero, List.set_cons_succ]
      have hown4 := own_extN HO3.out ((Ext.drew W3).trans hx4)
      obtain ⟨y2, y3⟩ := own_cell hown4 zi _ (List.getElem?_eq_getElem (show zi < (bools (wrN k ps word xs i)).length by rw [(HXL i).out]; exact hzQ))
      refine wpAnyH_ready (rs := [11]) (by kernel_rfl) (by simp) ?_
      refine AllReadyH.cons rfl (fun K hK => ?_) AllReadyH.nil
      go_simp
      rw [bit_eq]
      have hS5 : W3.grownBy (w4.setCell ⟨h, zi, none⟩ (.bool (bitOf word i))) (some h) := grown_trans hS4 (grown_set w4 h zi _)
      refine hK.out _ _ hS5 (fun _ => ?_)
      clear hK K
      refine wpAnyH_done (by kernel_rfl) ?_ _
      have HO5 : Hid ((w4.setCell ⟨h, zi, none⟩ (.bool (bitOf word i))).ownsRow B 4 1 (.slice (some ⟨h, 0, none⟩) Q cap) Q (bools (wrN k ps word xs (i + 1)))) := by
        have := own_set hown4 zi (.bool (bitOf word i))
        rw [← bools_set] at this
        show World.ownsRow _ _ _ _ _ _ _
        rw [HWi.out]
        exact this
      have HG5 := Lib.hid (grown_trans HG3.out hS5)
      clear hS5 hS4 hown4 hx4 y2 y3 b0 b1 b2 b3 b4 b5 hcur
      go_wp2_with fail
      refine ⟨⟨i + 1, by omega, by rw [Int.natCast_succ], HO5, HG5⟩, by simp [intOf]; omega⟩
    · obtain rfl : i = n := by omega
      go_wp2_with fail
      go_end0
      exact ⟨⟨_, rfl⟩, HOWN.out, grown_trans (grown_ext HX2.out _) HG.out⟩

theorem or_bit (r i : Nat) (hr : r < 2 ^ i) (hi : i ≤ 60) : bits .or .i64 (r : Int) (wrap64 (2 ^ i)) = ((r + 2 ^ i : Nat) : Int) := by
  have h1 : 2 ^ i ≤ 2 ^ 60 := Nat.pow_le_pow_right (by decide) hi
  have h2 : (2 : Nat) ^ 60 = 1152921504606846976 := by decide
  have e : ((2 : Int) ^ i) = ((2 ^ i : Nat) : Int) := by rw [Int.natCast_pow]; rfl
  have e2 := Nat.two_pow_add_eq_or_of_lt hr 1
  rw [Nat.mul_one] at e2
  rw [e, IntWalk.wrap64_in _ ⟨by omega, by omega⟩, i64_or_nat r (2 ^ i) (by omega) (by omega), Nat.or_comm, ← e2, Nat.add_comm]

theorem bools_get (xs : List Bool) (i : Nat) (h : i < xs.length) : (bools xs)[i]? = some (.bool (xs.getD i false)) := by
  rw [bools_at xs i h, List.getD_eq_getElem?_getD, List.getElem?_eq_getElem h]
  rfl

set_option maxRecDepth 20000 in
set_option maxHeartbeats 2000000 in
theorem read_any (v : Int) (k : Nat) (ao : Option Addr) (m c : Nat) (W H : Int) (mo : Option Addr) (Q cap : Nat) (xs : List Bool) (po : Option Addr) (pc : Nat) (ps : List (Nat × Nat)) (w : World)
    (hk : 21 ≤ k ∧ k ≤ 177) (hQ : k * k = Q) (hxl : xs.length = Q) (hps : ∀ p ∈ ps, p.1 < k ∧ p.2 < k) (hpl : ps.length ≤ 60) (hpc : ps.length ≤ pc ∧ pc ≤ 9223372036854775807)
    (hp : Pts w po ps) (hr : Row w mo (bools xs)) :
    Calls Try.prog 77 #[.agg (layV v k ao m c), .agg (matV W H mo Q cap), .slice po ps.length pc] w fun e w' =>
      e = .returned (.int .i64 (rdN k ps xs ps.length)) ∧ Ext w w' := by
  have HIA := fun (x y : Nat) (hx : x < k) (hy : y < k) (V : World) => Lib.hid (index_any v k x y ao m c V (by omega) (by omega) (by omega))
  have HPS := Lib.hid hps
  have HRS := fun (i : Nat) (p : Nat × Nat) (h : ps[i]? = some p) => Lib.hid (rdN_succ (k := k) (xs := xs) h)
  have HR0 : Hid (rdN k ps xs 0 = 0) := rfl
  have HRL := fun i => Lib.hid (rdN_lt k ps xs i)
  have HXT := fun (i : Nat) (hi : i < Q) => Lib.hid (bools_get xs i (by omega))
  have HQ := Lib.hid hQ
  have hQb : 441 ≤ Q ∧ Q ≤ 31329 := by rw [← hQ]; exact ⟨Nat.mul_le_mul hk.1 hk.1, Nat.mul_le_mul hk.2 hk.2⟩
  have HPT := Lib.hid hp
  have HRW := Lib.hid hr
  have HPE : ∀ i, i < ps.length → ∃ p, ps[i]? = some p := fun i hi => ⟨_, List.getElem?_eq_getElem hi⟩
  have HPE2 := Lib.hid HPE
  clear hps hQ hp hr hxl HPE
  obtain ⟨W2, hW2⟩ : ∃ W2, W2 = (w.alloc (.cells #[.int .i64 v, .int .i64 k, .slice ao m c] 69)).alloc (.cells #[.int .i64 W, .int .i64 H, .slice mo Q cap] 24) := ⟨_, rfl⟩
  have HX2 : Hid (Ext w W2) := by rw [hW2]; exact (Ext.alloc _ _).trans (Ext.alloc _ _)
  have HBX : Hid (∀ V, Ext W2 V → V.cell? ⟨w.heap.size, 0, none⟩ = some (.int .i64 v) ∧ V.cell? ⟨w.heap.size, 1, none⟩ = some (.int .i64 k) ∧ V.cell? ⟨w.heap.size, 2, none⟩ = some (.slice ao m c) ∧ V.cell? ⟨w.heap.size + 1, 2, none⟩ = some (.slice mo Q cap)) := by
    intro V hv
    rw [hW2] at hv
    have e1 := box3 ((Ext.alloc (w.alloc (.cells #[.int .i64 v, .int .i64 k, .slice ao m c] 69)) (.cells #[.int .i64 W, .int .i64 H, .slice mo Q cap] 24)).trans hv)
    have e2 := box3 hv
    rw [World.size_alloc] at e2
    exact ⟨e1.1, e1.2.1, e1.2.2, e2.2.2⟩
  have HW2 := Lib.hid hW2
  clear hW2
  unfold layV at HIA ⊢
  unfold matV
  obtain ⟨n, hn⟩ : ∃ n, n = ps.length := ⟨_, rfl⟩
  rw [← hn] at hpl hpc HPE2 ⊢
  clear hn
  go_enter Try.func77, Try.ntmps77
  go_wp2_with fail
  rw [← HW2.out]
  go_loopw [7, 8, 9, 12] (fun rr _ _ ii wr => ∃ i : Nat, i ≤ n ∧ ii = .int .i64 i ∧ rr = .int .i64 (rdN k ps xs i) ∧ Hid (Ext W2 wr)) (fun _ _ _ ii _ => n - (intOf ii).toNat)
  case atStart => exact ⟨0, by omega, rfl, by rw [HR0.out]; rfl, Ext.refl _⟩
  case round =>
    obtain ⟨i, hi, rfl, rfl, HX⟩ := hrel
    by_cases hlt : i < n
    · obtain ⟨p, hp⟩ := HPE2.out i hlt
      have hpk := HPS.out p (List.mem_of_getElem? hp)
      have HRi := HRS i p hp
      obtain ⟨b, off, rfl, hc1, hc2⟩ := HPT.out i p hp
      have g1 := HX.out.cell (HX2.out.cell hc1)
      have g2 := HX.out.cell (HX2.out.cell hc2)
      clear hp hc1 hc2
      obtain ⟨x, y⟩ := p
      simp only at hpk g1 g2 HRi
      have HIX := HIA x y hpk.1 hpk.2
      obtain ⟨zi, hzi⟩ : ∃ zi, zi = posOf k (x, y) := ⟨_, rfl⟩
      have HZI : Hid ((y : Int) * (k : Int) + (x : Int) = (zi : Int)) := by rw [hzi]; show _ = _; unfold posOf; rw [Int.natCast_add, Int.natCast_mul]
      have hzQ : zi < Q := by
        rw [hzi, ← HQ.out]
        have h1 : (y + 1) * k ≤ k * k := Nat.mul_le_mul_right k hpk.2
        rw [Nat.add_mul] at h1
        show y * k + x < k * k
        omega
      have HC := HXT zi hzQ
      rw [← hzi] at HRi
      rw [HZI.out] at HIX
      clear hzi
      have hzI : (zi : Int) < (Q : Int) := by omega
      generalize xs.getD zi false = XV at HC HRi
      have hrl := (HRL i).out
      generalize rdN k ps xs i = RN at HRi hrl ⊢
      go_upto_region 5 with fail
      obtain ⟨W3, hW3⟩ : ∃ W3, W3 = wr.alloc (.cells #[.int .i64 x, .int .i64 y] 45) := ⟨_, rfl⟩
      rw [← hW3]
      have hx3 : Ext wr W3 := by rw [hW3]; exact Ext.alloc _ _
      have hX3 : Ext W2 W3 := HX.out.trans hx3
      have e3 := pt2 (Row.lit wr [.int .i64 x, .int .i64 y] 45)
      rw [← hW3] at e3
      obtain ⟨am, rfl, hcm⟩ := (HRW.out.ext (HX2.out.trans hX3)).at HC.out
      have b0 := fun V (hv : Ext W3 V) => (HBX.out V (hX3.trans hv)).1
      have b1 := fun V (hv : Ext W3 V) => (HBX.out V (hX3.trans hv)).2.1
      have b2 := fun V (hv : Ext W3 V) => (HBX.out V (hX3.trans hv)).2.2.1
      have b3 := fun V (hv : Ext W3 V) => (HBX.out V (hX3.trans hv)).2.2.2
      have b4 := fun V (hv : Ext W3 V) => hv.cell e3.1
      have b5 := fun V (hv : Ext W3 V) => hv.cell e3.2
      have b6 := fun V (hv : Ext W3 V) => hv.cell hcm
      have HX3 := Lib.hid hX3
      clear hx3 e3 g1 g2 hW3 hX3 hcm
      refine wp_region_held_drew (S := fun V => Ext W3 V) (by kernel_rfl) (Ext.drew _) (fun hcur => ?_)
      skip
      refine wpAnyH_take (i := 0) (v := ?_) rfl (by kernel_rfl) (by kernel_rfl) (by kernel_rfl) (fun _ _ _ h => h) (Or.inl ⟨by rfl, ?_⟩) (by assumption) ?_
      rotate_left
      · (intro w hSw; try dsimp only at hSw); go_simp; try with_reducible rfl
      simp only [List.getElem_toArray, List.getElem_cons_zero, Act.put, List.setIfInBounds_toArray, List.set_cons_zero, List.set_cons_succ]
      skip
      refine wpAnyH_take (i := 1) (v := ?_) rfl (by kernel_rfl) (by kernel_rfl) (by kernel_rfl) (fun _ _ _ h => h) (Or.inl ⟨by rfl, ?_⟩) (by assumption) ?_
      rotate_left
      · (intro w hSw; try dsimp only at hSw); go_simp; try with_reducible rfl
      simp only [List.getElem_toArray, List.getElem_cons_zero, List.getElem_cons_succ, Act.put, List.setIfInBounds_toArray, List.set_cons_zero, List.set_cons_succ]
      skip
      refine wpAnyH_take (i := 2) (v := ?_) rfl (by kernel_rfl) (by kernel_rfl) (by kernel_rfl) (fun _ _ _ h => h) (Or.inl ⟨by rfl, ?_⟩) (by assumption) ?_
      rotate_left
      · (intro w hSw; try dsimp only at hSw); go_simp; try with_reducible rfl
      simp only [List.getElem_toArray, List.getElem_cons_zero, List.getElem_cons_succ, Act.put, List.setIfInBounds_toArray, List.set_cons_zero, List.set_cons_succ]
      skip
      refine wpAnyH_take (i := 3) (v := ?_) rfl (by kernel_rfl) (by kernel_rfl) (by kernel_rfl) (fun _ _ _ h => h) (Or.inl ⟨by rfl, ?_⟩) (by assumption) ?_
      rotate_left
      · (intro w hSw; try dsimp only at hSw); go_simp; try with_reducible rfl
      simp only [List.getElem_toArray, List.getElem_cons_zero, List.getElem_cons_succ, Act.put, List.setIfInBounds_toArray, List.set_cons_zero, List.set_cons_succ]
      refine wpAnyH_ready (rs := [4]) (by kernel_rfl) (by simp) ?_
      refine AllReadyH.cons rfl (fun K hK => ?_) AllReadyH.nil
      go_simp
      go_at_call 62
      (with_reducible refine (HIX _).out.mono ?_)
      rintro e w4 ⟨rfl, hx4⟩
      have hS4 : Ext W3 w4 := hcur.trans hx4
      go_wp2_with fail
      refine hK.out _ _ hS4 (fun _ => ?_)
      clear hK K
      skip
      refine wpAnyH_take (i := 5) (v := ?_) rfl (by kernel_rfl) (by kernel_rfl) (by kernel_rfl) (fun _ _ _ h => h) (Or.inl ⟨by rfl, ?_⟩) (by assumption) ?_
      rotate_left
      · (intro w hSw; try dsimp only at hSw); go_simp; try with_reducible rfl
      simp only [List.getElem_toArray, List.getElem_cons_zero, List.getElem_cons_succ, Act.put, List.setIfInBounds_toArray, List.set_cons_zero, List.set_cons_succ]
      skip
      refine wpAnyH_take (i := 6) (v := ?_) rfl (by kernel_rfl) (by kernel_rfl) (by kernel_rfl) (fun _ _ _ h => h) (Or.inl ⟨by rfl, ?_⟩) (by assumption) ?_
      rotate_left
      · (intro w hSw; try dsimp only at hSw); go_simp; try with_reducible rfl
      simp only [List.getElem_toArray, List.getElem_cons_zero, List.getElem_cons_succ, Act.put, List.setIfInBounds_toArray, List.set_cons_zero, List.set_cons_succ]
      refine wpAnyH_done (by kernel_rfl) ?_ _
      have HX4 := Lib.hid (HX3.out.trans hS4)
      clear hS4 hx4 b0 b1 b2 b3 b4 b5 b6 hcur
      cases XV
      · have HN : Hid (rdN k ps xs (i + 1) = RN) := by show _ = _; rw [HRi.out]; rfl
        go_wp2_with fail
        refine ⟨⟨i + 1, by omega, by rw [Int.natCast_succ], by rw [HN.out], HX4⟩, by simp [intOf]; omega⟩
      · have HN : Hid (rdN k ps xs (i + 1) = RN + 2 ^ i) := by show _ = _; rw [HRi.out]; rfl
        have HB := Lib.hid (or_bit RN i hrl (by omega))
        go_wp2_with fail
        refine ⟨⟨i + 1, by omega, by rw [Int.natCast_succ], by rw [HN.out, HB.out], HX4⟩, by simp [intOf]; omega⟩
    · obtain rfl : i = n := by omega
      go_wp2_with fail
      go_ret
      exact ⟨rfl, HX2.out.trans HX.out⟩

end Go.Proofs.Ytjkpdhcnklgfbaa

namespace Go.Lay
open Go.Bs
/-- Of two readings of a number the better one, and whether there is one. -/
def pick3 (a b : Int × Int × Int) : Int × Bool := if b.2.2 = 0 ∧ (a.2.2 ≠ 0 ∨ b.2.1 < a.2.1) then (b.1, true) else (a.1, a.2.2 == 0)
def pick4 (a b : Int × Int × Int × Int) : (Int × Int) × Bool := if b.2.2.2 = 0 ∧ (a.2.2.2 ≠ 0 ∨ b.2.2.1 < a.2.2.1) then ((b.1, b.2.1), true) else ((a.1, a.2.1), a.2.2.2 == 0)
theorem better (e e2 f d : Int) : ((e2 == 0) = false ∧ ¬ (e2 = 0 ∧ (e ≠ 0 ∨ f < d))) ∨ ((e2 == 0) = true ∧ (e != 0) = true ∧ (e2 = 0 ∧ (e ≠ 0 ∨ f < d))) ∨ ((e2 == 0) = true ∧ (e != 0) = false ∧ f < d ∧ (e2 = 0 ∧ (e ≠ 0 ∨ f < d))) ∨ ((e2 == 0) = true ∧ (e != 0) = false ∧ d ≤ f ∧ ¬ (e2 = 0 ∧ (e ≠ 0 ∨ f < d))) := by
  by_cases h2 : e2 = 0
  · right
    have h2' : (e2 == 0) = true := by simpa using h2
    by_cases h1 : e = 0
    · have h1' : (e != 0) = false := by simpa using h1
      right
      by_cases h : f < d
      · exact .inl ⟨h2', h1', h, h2, .inr h⟩
      · exact .inr ⟨h2', h1', by omega, by omega⟩
    · exact .inl ⟨h2', by simpa using h1, h2, .inl h1⟩
  · exact .inl ⟨by simpa using h2, fun h => h2 h.1⟩
theorem fmL_in (s copy : Nat) (hs : 21 ≤ s) : ∀ p ∈ fmL s copy 15, p.1 < s ∧ p.2 < s := by
  intro p hp
  obtain ⟨i, hi, rfl⟩ := List.mem_map.1 hp
  have := List.mem_range.1 hi
  unfold fmAt
  repeat' split
  all_goals (constructor <;> simp <;> omega)
theorem vrL_in (s copy : Nat) (hs : 45 ≤ s) : ∀ p ∈ vrL s copy 18, p.1 < s ∧ p.2 < s := by
  intro p hp
  obtain ⟨i, hi, rfl⟩ := List.mem_map.1 hp
  have := List.mem_range.1 hi
  unfold vrAt
  split
  all_goals (constructor <;> simp <;> omega)
end Go.Lay
namespace Go.Proofs.Ytjkpdhcnklgfbaa
open Go.RowKit Go.Bs Go.Qrv Go.Lay Go.Bch

def rvRes (k : Nat) (xs : List Bool) : Int × Bool := pick3 (pvRes (rdN k (vrL k 0 18) xs 18)) (pvRes (rdN k (vrL k 1 18) xs 18))
def rfRes (k : Nat) (xs : List Bool) : (Int × Int) × Bool := pick4 (pfRes (rdN k (fmL k 0 15) xs 15)) (pfRes (rdN k (fmL k 1 15) xs 15))

set_option maxRecDepth 20000 in
set_option maxHeartbeats 2000000 in
theorem readVersion_any (v : Int) (k : Nat) (ao : Option Addr) (m c : Nat) (W H : Int) (mo : Option Addr) (Q cap : Nat) (xs : List Bool) (w : World)
    (hk : 45 ≤ k ∧ k ≤ 177) (hQ : k * k = Q) (hxl : xs.length = Q) (hr : Row w mo (bools xs)) :
    Calls Try.prog 52 #[.agg (layV v k ao m c), .agg (matV W H mo Q cap)] w fun e w' =>
      e = .returned (.tuple #[.int .i64 (rvRes k xs).1, .bool (rvRes k xs).2]) ∧ Ext w w' := by
  have HVE := fun (V : World) => Lib.hid (versions_any v k ao m c V ⟨hk.1, by omega⟩)
  have HRD := fun (copy : Nat) (po : Option Addr) (pc : Nat) (V : World) (h1 : 18 ≤ pc ∧ pc ≤ 9223372036854775807) (h2 : Pts V po (vrL k copy 18)) (h3 : Row V mo (bools xs)) =>
    Lib.hid (read_any v k ao m c W H mo Q cap xs po pc (vrL k copy 18) V (by omega) hQ hxl (vrL_in k copy hk.1) (by rw [vrL_len]; decide) (by rw [vrL_len]; exact h1) h2 h3)
  have HPV := fun (x : Int) (V : World) => Lib.hid (parseVersion_any x V)
  have HR := Lib.hid hr
  unfold RetTwo at HVE
  unfold rvRes pick3
  unfold three at HPV
  simp only [vrL_len] at HVE HRD
  clear hQ hxl hr hk
  have HP0 := HPV (rdN k (vrL k 0 18) xs 18)
  have HP1 := HPV (rdN k (vrL k 1 18) xs 18)
  generalize pvRes (rdN k (vrL k 0 18) xs 18) = A at HP0 ⊢
  generalize pvRes (rdN k (vrL k 1 18) xs 18) = B at HP1 ⊢
  obtain ⟨n, d, e0⟩ := A
  obtain ⟨o, f, e2⟩ := B
  simp only at HP0 HP1 ⊢
  have HR0 := HRD 0
  have HR1 := HRD 1
  generalize rdN k (vrL k 0 18) xs 18 = R0 at HR0 HP0
  generalize rdN k (vrL k 1 18) xs 18 = R1 at HR1 HP1
  clear HRD HPV
  unfold layV matV at *
  have hbet := better e0 e2 f d
  rcases hbet with ⟨c1, c2⟩ | ⟨c1, c3, c2⟩ | ⟨c1, c3, c4, c2⟩ | ⟨c1, c3, c4, c2⟩
  all_goals
    first | rw [if_neg c2] | rw [if_pos c2]
    clear c2
    go_enter Try.func52, Try.ntmps52
    go_wp2_with fail
    refine (HVE _).out.mono ?_
    rintro e w1 ⟨a1, q1, a2, q2, rfl, hp1, hp2, l1, l2, m1, m2, -, -, hx1⟩
    have HT1 := Lib.hid hp1
    have HT2 := Lib.hid hp2
    have HX1 : Hid (Ext w w1) := ((Ext.alloc _ _).trans (Ext.alloc _ _)).trans hx1
    obtain ⟨z0, z1, z2⟩ := box3 ((Ext.alloc _ _).trans hx1)
    obtain ⟨y0, y1, y2⟩ := box3 hx1
    rw [World.size_alloc] at y0 y1 y2
    clear hp1 hp2 hx1
    go_wp2_with fail
    refine (HR0 _ _ _ ⟨l1, m1⟩ HT1.out (HR.out.ext HX1.out)).out.mono ?_
    rintro e w2 ⟨rfl, hx2⟩
    replace z0 := hx2.cell z0
    replace z1 := hx2.cell z1
    replace z2 := hx2.cell z2
    replace y0 := hx2.cell y0
    replace y1 := hx2.cell y1
    replace y2 := hx2.cell y2
    have HX2 := Lib.hid hx2
    clear hx2
    go_wp2_with fail
    refine (HP0 _).out.mono ?_
    rintro e w3 ⟨rfl, rfl⟩
    go_wp2_with fail
    refine (HR1 _ _ _ ⟨l2, m2⟩ (HT2.out.ext HX2.out) (HR.out.ext (HX1.out.trans HX2.out))).out.mono ?_
    rintro e w4 ⟨rfl, hx4⟩
    have HX4 := Lib.hid hx4
    clear hx4 z0 z1 z2 y0 y1 y2
    go_wp2_with fail
    refine (HP1 _).out.mono ?_
    rintro e w5 ⟨rfl, rfl⟩
    go_wp2_with fail
    go_ret2
    exact ⟨rfl, HX1.out.trans (HX2.out.trans HX4.out)⟩

set_option maxRecDepth 20000 in
set_option maxHeartbeats 2000000 in
theorem readFormat_any (v : Int) (k : Nat) (ao : Option Addr) (m c : Nat) (W H : Int) (mo : Option Addr) (Q cap : Nat) (xs : List Bool) (w : World)
    (hk : 21 ≤ k ∧ k ≤ 177) (hQ : k * k = Q) (hxl : xs.length = Q) (hr : Row w mo (bools xs)) :
    Calls Try.prog 53 #[.agg (layV v k ao m c), .agg (matV W H mo Q cap)] w fun e w' =>
      e = .returned (.tuple #[.int .i64 (rfRes k xs).1.1, .int .i64 (rfRes k xs).1.2, .bool (rfRes k xs).2]) ∧ Ext w w' := by
  have HVE := fun (V : World) => Lib.hid (formats_any v k ao m c V ⟨hk.1, by omega⟩)
  have HRD := fun (copy : Nat) (po : Option Addr) (pc : Nat) (V : World) (h1 : 15 ≤ pc ∧ pc ≤ 9223372036854775807) (h2 : Pts V po (fmL k copy 15)) (h3 : Row V mo (bools xs)) =>
    Lib.hid (read_any v k ao m c W H mo Q cap xs po pc (fmL k copy 15) V (by omega) hQ hxl (fmL_in k copy hk.1) (by rw [fmL_len]; decide) (by rw [fmL_len]; exact h1) h2 h3)
  have HPV := fun (x : Int) (V : World) => Lib.hid (parseFormat_any x V)
  have HR := Lib.hid hr
  unfold RetTwo at HVE
  unfold rfRes pick4
  unfold four at HPV
  simp only [fmL_len] at HVE HRD
  clear hQ hxl hr hk
  have HP0 := HPV (rdN k (fmL k 0 15) xs 15)
  have HP1 := HPV (rdN k (fmL k 1 15) xs 15)
  generalize pfRes (rdN k (fmL k 0 15) xs 15) = A at HP0 ⊢
  generalize pfRes (rdN k (fmL k 1 15) xs 15) = B at HP1 ⊢
  obtain ⟨n, nm, d, e0⟩ := A
  obtain ⟨o, om, f, e2⟩ := B
  simp only at HP0 HP1 ⊢
  have HR0 := HRD 0
  have HR1 := HRD 1
  generalize rdN k (fmL k 0 15) xs 15 = R0 at HR0 HP0
  generalize rdN k (fmL k 1 15) xs 15 = R1 at HR1 HP1
  clear HRD HPV
  unfold layV matV at *
  have hbet := better e0 e2 f d
  rcases hbet with ⟨c1, c2⟩ | ⟨c1, c3, c2⟩ | ⟨c1, c3, c4, c2⟩ | ⟨c1, c3, c4, c2⟩
  all_goals
    first | rw [if_neg c2] | rw [if_pos c2]
    clear c2
    go_enter Try.func53, Try.ntmps53
    go_wp2_with fail
    refine (HVE _).out.mono ?_
    rintro e w1 ⟨a1, q1, a2, q2, rfl, hp1, hp2, l1, l2, m1, m2, -, -, hx1⟩
    have HT1 := Lib.hid hp1
    have HT2 := Lib.hid hp2
    have HX1 : Hid (Ext w w1) := ((Ext.alloc _ _).trans (Ext.alloc _ _)).trans hx1
    obtain ⟨z0, z1, z2⟩ := box3 ((Ext.alloc _ _).trans hx1)
    obtain ⟨y0, y1, y2⟩ := box3 hx1
    rw [World.size_alloc] at y0 y1 y2
    clear hp1 hp2 hx1
    go_wp2_with fail
    refine (HR0 _ _ _ ⟨l1, m1⟩ HT1.out (HR.out.ext HX1.out)).out.mono ?_
    rintro e w2 ⟨rfl, hx2⟩
    replace z0 := hx2.cell z0
    replace z1 := hx2.cell z1
    replace z2 := hx2.cell z2
    replace y0 := hx2.cell y0
    replace y1 := hx2.cell y1
    replace y2 := hx2.cell y2
    have HX2 := Lib.hid hx2
    clear hx2
    go_wp2_with fail
    refine (HP0 _).out.mono ?_
    rintro e w3 ⟨rfl, hx3⟩
    replace z0 := hx3.cell z0
    replace z1 := hx3.cell z1
    replace z2 := hx3.cell z2
    replace y0 := hx3.cell y0
    replace y1 := hx3.cell y1
    replace y2 := hx3.cell y2
    have HX3 := Lib.hid (HX2.out.trans hx3)
    clear hx3
    go_wp2_with fail
    refine (HR1 _ _ _ ⟨l2, m2⟩ (HT2.out.ext HX3.out) (HR.out.ext (HX1.out.trans HX3.out))).out.mono ?_
    rintro e w4 ⟨rfl, hx4⟩
    have HX4 := Lib.hid hx4
    clear hx4 z0 z1 z2 y0 y1 y2
    go_wp2_with fail
    refine (HP1 _).out.mono ?_
    rintro e w5 ⟨rfl, hx5⟩
    have HX5 := Lib.hid hx5
    clear hx5
    go_wp2_with fail
    go_ret3
    exact ⟨rfl, HX1.out.trans (HX3.out.trans (HX4.out.trans HX5.out))⟩

/-- Version, level and mask of a matrix, or an error. -/
def rdRes (n : Nat) (xs : List Bool) : Int × Int × Int × Int :=
  if 7 ≤ n ∧ (rvRes (sd n) xs).2 = false then (0, 0, 0, 21) else if 7 ≤ n ∧ (rvRes (sd n) xs).1 ≠ n then (0, 0, 0, 14)
  else if (rfRes (sd n) xs).2 = false then (0, 0, 0, 21) else (n, (rfRes (sd n) xs).1.1, (rfRes (sd n) xs).1.2, 0)

theorem rd_cases (n : Nat) (A : Int × Bool) (B : (Int × Int) × Bool) : ∃ r : Int × Int × Int × Int, (if 7 ≤ n ∧ A.2 = false then (0, 0, 0, 21) else if 7 ≤ n ∧ A.1 ≠ n then (0, 0, 0, 14) else if B.2 = false then (0, 0, 0, 21) else ((n : Int), B.1.1, B.1.2, 0)) = r ∧
    ((7 ≤ n ∧ A.2 = false ∧ r = (0, 0, 0, 21)) ∨ (7 ≤ n ∧ A.2 = true ∧ (A.1 != (n : Int)) = true ∧ r = (0, 0, 0, 14)) ∨ (7 ≤ n ∧ A.2 = true ∧ (A.1 != (n : Int)) = false ∧ B.2 = false ∧ r = (0, 0, 0, 21)) ∨ (7 ≤ n ∧ A.2 = true ∧ (A.1 != (n : Int)) = false ∧ B.2 = true ∧ r = ((n : Int), B.1.1, B.1.2, 0)) ∨
      (n < 7 ∧ B.2 = false ∧ r = (0, 0, 0, 21)) ∨ (n < 7 ∧ B.2 = true ∧ r = ((n : Int), B.1.1, B.1.2, 0))) := by
  refine ⟨_, rfl, ?_⟩
  by_cases h : 7 ≤ n
  · cases ha : A.2
    · exact .inl ⟨h, rfl, by simp [h]⟩
    · by_cases hn : A.1 = n
      · have hn' : (A.1 != (n : Int)) = false := by simpa using hn
        cases hb : B.2
        · exact .inr (.inr (.inl ⟨h, rfl, hn', rfl, by simp [hn]⟩))
        · exact .inr (.inr (.inr (.inl ⟨h, rfl, hn', rfl, by simp [hn]⟩)))
      · have hn' : (A.1 != (n : Int)) = true := by simpa using hn
        exact .inr (.inl ⟨h, rfl, hn', by simp [h, hn]⟩)
  · cases hb : B.2
    · exact .inr (.inr (.inr (.inr (.inl ⟨by omega, rfl, by simp [h]⟩))))
    · exact .inr (.inr (.inr (.inr (.inr ⟨by omega, rfl, by simp [h]⟩))))

set_option maxRecDepth 20000 in
set_option maxHeartbeats 1000000 in
theorem read_no (W H : Int) (ao : Option Addr) (n cap : Nat) (w : World) (hc : mcode W H n ≠ 0) :
    Calls Try.prog 19 #[.agg (matV W H ao n cap)] w fun e w' => e = .returned (four (0, 0, 0, mcode W H n)) ∧ Ext w w' := by
  have HLO := fun (V : World) => Lib.hid (layoutOf_no W H ao n cap V hc)
  have hc' : (mcode W H n != 0) = true := by simpa using hc
  unfold RetNoLay at HLO
  unfold matV four at *
  simp only at HLO ⊢
  clear hc
  generalize mcode W H n = C at HLO hc' ⊢
  go_enter Try.func19, Try.ntmps19
  go_wp2_with fail
  refine (HLO _).out.mono ?_
  rintro e w1 ⟨rfl, hx1⟩
  have HX1 := Lib.hid ((Ext.alloc w _).trans hx1)
  clear hx1
  go_wp2_with fail
  exact bodyPost_ret (results_tmp4 rfl _ _ _) rfl ⟨rfl, HX1.out.trans (Ext.alloc _ _)⟩


set_option maxRecDepth 20000 in
set_option maxHeartbeats 2000000 in
theorem read_ok (n : Nat) (h1 : 1 ≤ n) (h2 : n ≤ 40) (xs : List Bool) (ao : Option Addr) (cap : Nat) (w : World) (hl : xs.length = sd n * sd n) (hr : Row w ao (bools xs)) :
    Calls Try.prog 19 #[.agg (matV (sd n) (sd n) ao (sd n * sd n) cap)] w fun e w' => e = .returned (four (rdRes n xs)) ∧ Ext w w' := by
  have hsb : 21 ≤ sd n ∧ sd n ≤ 177 := by unfold sd; omega
  have HLO := fun (V : World) => Lib.hid (layoutOf_ok n h1 h2 ao cap V)
  have HRV := fun (h7 : 7 ≤ n) (bo : Option Addr) (m bc : Nat) (V : World) (h : Row V ao (bools xs)) => Lib.hid (readVersion_any n (sd n) bo m bc (sd n) (sd n) ao (sd n * sd n) cap xs V ⟨by unfold sd; omega, hsb.2⟩ rfl hl h)
  have HRF := fun (bo : Option Addr) (m bc : Nat) (V : World) (h : Row V ao (bools xs)) => Lib.hid (readFormat_any n (sd n) bo m bc (sd n) (sd n) ao (sd n * sd n) cap xs V hsb rfl hl h)
  have HR := Lib.hid hr
  unfold rdRes
  unfold RetLay at HLO
  unfold matV four at *
  generalize sd n * sd n = Q at *
  generalize sd n = k at *
  generalize rvRes k xs = A at HRV ⊢
  generalize rfRes k xs = B at HRF ⊢
  obtain ⟨r, hrr, hcs⟩ := rd_cases n A B
  rw [hrr]
  clear hr hl hrr
  generalize (al n).length = m at HLO ⊢
  generalize ints (al n) = L at HLO
  obtain ⟨a0, a1⟩ := A
  obtain ⟨⟨c0, c1⟩, c2⟩ := B
  simp only at HRV HRF hcs
  unfold layV at *
  rcases hcs with ⟨d1, rfl, rfl⟩ | ⟨d1, rfl, d2, rfl⟩ | ⟨d1, rfl, d2, rfl, rfl⟩ | ⟨d1, rfl, d2, rfl, rfl⟩ | ⟨d1, rfl, rfl⟩ | ⟨d1, rfl, rfl⟩
  · have dI : (7 : Int) ≤ n := by omega
    skip
    go_enter Try.func19, Try.ntmps19
    go_wp2_with fail
    refine (HLO _).out.mono ?_
    rintro e w1 ⟨bo, bc, rfl, hr1, hx1⟩
    have HX1 := Lib.hid hx1
    obtain ⟨z0, z1, z2⟩ := box3 hx1
    have hz1 : w.heap.size < w1.heap.size := Nat.lt_of_lt_of_le (by rw [World.size_alloc]; exact Nat.lt_succ_self _) hx1.size
    clear hr1 hx1
    skip
    go_wp2_with fail
    have HX2a := Lib.hid ((Ext.alloc w (.cells #[.int .i64 k, .int .i64 k, .slice ao Q cap] 24)).trans (HX1.out.trans (Ext.alloc w1 (.cells #[.int .i64 n, .int .i64 k, .slice bo m bc] 69))))
    refine (HRV d1 _ _ _ _ (HR.out.ext HX2a.out)).out.mono ?_
    rintro e w2 ⟨rfl, hx2⟩
    have HX2 := Lib.hid (HX2a.out.trans hx2)
    obtain ⟨y0, y1, y2⟩ := box3 hx2
    obtain ⟨z0, z1, z2⟩ := box3 ((HX1.out.trans (Ext.alloc w1 (.cells #[.int .i64 n, .int .i64 k, .slice bo m bc] 69))).trans hx2)
    clear hx2 HX2a
    go_wp2_with fail
    exact bodyPost_ret (results_tmp4 rfl _ _ _) rfl ⟨rfl, HX2.out⟩
  · have dI : (7 : Int) ≤ n := by omega
    skip
    go_enter Try.func19, Try.ntmps19
    go_wp2_with fail
    refine (HLO _).out.mono ?_
    rintro e w1 ⟨bo, bc, rfl, hr1, hx1⟩
    have HX1 := Lib.hid hx1
    obtain ⟨z0, z1, z2⟩ := box3 hx1
    have hz1 : w.heap.size < w1.heap.size := Nat.lt_of_lt_of_le (by rw [World.size_alloc]; exact Nat.lt_succ_self _) hx1.size
    clear hr1 hx1
    skip
    go_wp2_with fail
    have HX2a := Lib.hid ((Ext.alloc w (.cells #[.int .i64 k, .int .i64 k, .slice ao Q cap] 24)).trans (HX1.out.trans (Ext.alloc w1 (.cells #[.int .i64 n, .int .i64 k, .slice bo m bc] 69))))
    refine (HRV d1 _ _ _ _ (HR.out.ext HX2a.out)).out.mono ?_
    rintro e w2 ⟨rfl, hx2⟩
    have HX2 := Lib.hid (HX2a.out.trans hx2)
    obtain ⟨y0, y1, y2⟩ := box3 hx2
    obtain ⟨z0, z1, z2⟩ := box3 ((HX1.out.trans (Ext.alloc w1 (.cells #[.int .i64 n, .int .i64 k, .slice bo m bc] 69))).trans hx2)
    clear hx2 HX2a
    go_wp2_with fail
    exact bodyPost_ret (results_tmp4 rfl _ _ _) rfl ⟨rfl, HX2.out⟩
  · have dI : (7 : Int) ≤ n := by omega
    skip
    go_enter Try.func19, Try.ntmps19
    go_wp2_with fail
    refine (HLO _).out.mono ?_
    rintro e w1 ⟨bo, bc, rfl, hr1, hx1⟩
    have HX1 := Lib.hid hx1
    obtain ⟨z0, z1, z2⟩ := box3 hx1
    have hz1 : w.heap.size < w1.heap.size := Nat.lt_of_lt_of_le (by rw [World.size_alloc]; exact Nat.lt_succ_self _) hx1.size
    clear hr1 hx1
    skip
    go_wp2_with fail
    have HX2a := Lib.hid ((Ext.alloc w (.cells #[.int .i64 k, .int .i64 k, .slice ao Q cap] 24)).trans (HX1.out.trans (Ext.alloc w1 (.cells #[.int .i64 n, .int .i64 k, .slice bo m bc] 69))))
    refine (HRV d1 _ _ _ _ (HR.out.ext HX2a.out)).out.mono ?_
    rintro e w2 ⟨rfl, hx2⟩
    have HX2 := Lib.hid (HX2a.out.trans hx2)
    obtain ⟨y0, y1, y2⟩ := box3 hx2
    obtain ⟨z0, z1, z2⟩ := box3 ((HX1.out.trans (Ext.alloc w1 (.cells #[.int .i64 n, .int .i64 k, .slice bo m bc] 69))).trans hx2)
    clear hx2 HX2a
    go_wp2_with fail
    skip
    refine (HRF _ _ _ _ (HR.out.ext HX2.out)).out.mono ?_
    rintro e w3 ⟨rfl, hx3⟩
    have HX3 := Lib.hid hx3
    replace y0 := hx3.cell y0
    clear hx3
    go_wp2_with fail
    exact bodyPost_ret (results_tmp4 rfl _ _ _) rfl ⟨rfl, HX2.out.trans HX3.out⟩
  · have dI : (7 : Int) ≤ n := by omega
    skip
    go_enter Try.func19, Try.ntmps19
    go_wp2_with fail
    refine (HLO _).out.mono ?_
    rintro e w1 ⟨bo, bc, rfl, hr1, hx1⟩
    have HX1 := Lib.hid hx1
    obtain ⟨z0, z1, z2⟩ := box3 hx1
    have hz1 : w.heap.size < w1.heap.size := Nat.lt_of_lt_of_le (by rw [World.size_alloc]; exact Nat.lt_succ_self _) hx1.size
    clear hr1 hx1
    skip
    go_wp2_with fail
    have HX2a := Lib.hid ((Ext.alloc w (.cells #[.int .i64 k, .int .i64 k, .slice ao Q cap] 24)).trans (HX1.out.trans (Ext.alloc w1 (.cells #[.int .i64 n, .int .i64 k, .slice bo m bc] 69))))
    refine (HRV d1 _ _ _ _ (HR.out.ext HX2a.out)).out.mono ?_
    rintro e w2 ⟨rfl, hx2⟩
    have HX2 := Lib.hid (HX2a.out.trans hx2)
    obtain ⟨y0, y1, y2⟩ := box3 hx2
    obtain ⟨z0, z1, z2⟩ := box3 ((HX1.out.trans (Ext.alloc w1 (.cells #[.int .i64 n, .int .i64 k, .slice bo m bc] 69))).trans hx2)
    clear hx2 HX2a
    go_wp2_with fail
    skip
    refine (HRF _ _ _ _ (HR.out.ext HX2.out)).out.mono ?_
    rintro e w3 ⟨rfl, hx3⟩
    have HX3 := Lib.hid hx3
    replace y0 := hx3.cell y0
    clear hx3
    go_wp2_with fail
    exact bodyPost_ret (results_tmp4 rfl _ _ _) rfl ⟨rfl, HX2.out.trans HX3.out⟩
  · have dI : (n : Int) < 7 := by omega
    skip
    go_enter Try.func19, Try.ntmps19
    go_wp2_with fail
    refine (HLO _).out.mono ?_
    rintro e w1 ⟨bo, bc, rfl, hr1, hx1⟩
    have HX1 := Lib.hid hx1
    obtain ⟨z0, z1, z2⟩ := box3 hx1
    have hz1 : w.heap.size < w1.heap.size := Nat.lt_of_lt_of_le (by rw [World.size_alloc]; exact Nat.lt_succ_self _) hx1.size
    clear hr1 hx1
    go_wp2_with fail
    have HX2 := Lib.hid ((Ext.alloc w (.cells #[.int .i64 k, .int .i64 k, .slice ao Q cap] 24)).trans (HX1.out.trans (Ext.alloc w1 (.cells #[.int .i64 n, .int .i64 k, .slice bo m bc] 69))))
    skip
    refine (HRF _ _ _ _ (HR.out.ext HX2.out)).out.mono ?_
    rintro e w3 ⟨rfl, hx3⟩
    have HX3 := Lib.hid hx3
    have y0 := (box3 hx3).1
    clear hx3
    go_wp2_with fail
    exact bodyPost_ret (results_tmp4 rfl _ _ _) rfl ⟨rfl, HX2.out.trans HX3.out⟩
  · have dI : (n : Int) < 7 := by omega
    skip
    go_enter Try.func19, Try.ntmps19
    go_wp2_with fail
    refine (HLO _).out.mono ?_
    rintro e w1 ⟨bo, bc, rfl, hr1, hx1⟩
    have HX1 := Lib.hid hx1
    obtain ⟨z0, z1, z2⟩ := box3 hx1
    have hz1 : w.heap.size < w1.heap.size := Nat.lt_of_lt_of_le (by rw [World.size_alloc]; exact Nat.lt_succ_self _) hx1.size
    clear hr1 hx1
    go_wp2_with fail
    have HX2 := Lib.hid ((Ext.alloc w (.cells #[.int .i64 k, .int .i64 k, .slice ao Q cap] 24)).trans (HX1.out.trans (Ext.alloc w1 (.cells #[.int .i64 n, .int .i64 k, .slice bo m bc] 69))))
    skip
    refine (HRF _ _ _ _ (HR.out.ext HX2.out)).out.mono ?_
    rintro e w3 ⟨rfl, hx3⟩
    have HX3 := Lib.hid hx3
    have y0 := (box3 hx3).1
    clear hx3
    go_wp2_with fail
    exact bodyPost_ret (results_tmp4 rfl _ _ _) rfl ⟨rfl, HX2.out.trans HX3.out⟩

end Go.Proofs.Ytjkpdhcnklgfbaa

namespace Go.Proofs.Ytjkpdhcnklgfbaa
open Go.RowKit Go.Bs Go.Qrv Go.Lay Go.Bch

/-- A matrix with format information, and with version information. -/
def sgF (k : Nat) (word : Int) (xs : List Bool) : List Bool := wrN k (fmL k 1 15) word (wrN k (fmL k 0 15) word xs 15) 15
def sgV (k : Nat) (word : Int) (xs : List Bool) : List Bool := wrN k (vrL k 1 18) word (wrN k (vrL k 0 18) word xs 18) 18
def signN (n : Nat) (word : Int) (xs : List Bool) : List Bool := if 7 ≤ n then sgV (sd n) (verRes n).1 (sgF (sd n) word xs) else sgF (sd n) word xs
def sgRes (n : Nat) (xs : List Bool) (l m : Int) : (Int × Int × List Bool) × Int := if (fmtRes l m).2 = 0 then ((sd n, sd n, signN n (fmtRes l m).1 xs), 0) else ((0, 0, []), (fmtRes l m).2)
theorem sgRes_1 {n : Nat} {xs : List Bool} {l m : Int} (h : (fmtRes l m).2 = 0) : sgRes n xs l m = (((sd n : Int), (sd n : Int), signN n (fmtRes l m).1 xs), (0 : Int)) := by unfold sgRes; rw [if_pos h]
theorem sgRes_2 {n : Nat} {xs : List Bool} {l m : Int} (h : ¬ (fmtRes l m).2 = 0) : sgRes n xs l m = ((0, 0, []), (fmtRes l m).2) := by unfold sgRes; rw [if_neg h]
theorem sgF_len (k : Nat) (word : Int) (xs : List Bool) : (sgF k word xs).length = xs.length := by unfold sgF; rw [wrN_len, wrN_len]
theorem sgV_len (k : Nat) (word : Int) (xs : List Bool) : (sgV k word xs).length = xs.length := by unfold sgV; rw [wrN_len, wrN_len]
theorem signN_len (n : Nat) (word : Int) (xs : List Bool) : (signN n word xs).length = xs.length := by unfold signN; split; rw [sgV_len, sgF_len]; exact sgF_len _ _ _

theorem Pts.grown {w w' : World} {ao : Option Addr} {l : List (Nat × Nat)} {h : Nat} (hp : Pts w ao l) (hg : w.grownBy w' (some h)) (hne : ∀ a, ao = some a → a.block ≠ h) : Pts w' ao l := by
  intro i p hi
  obtain ⟨b, off, ha, h1, h2⟩ := hp i p hi
  have hb : b ≠ h := hne ⟨b, off, none⟩ ha
  exact ⟨b, off, ha, grown_cell hg h1 hb, grown_cell hg h2 hb⟩

set_option maxRecDepth 20000 in
set_option maxHeartbeats 1000000 in
theorem sign_no (W H : Int) (ao : Option Addr) (n cap : Nat) (l m : Int) (w : World) (hc : mcode W H n ≠ 0) :
    Calls Try.prog 17 #[.agg (matV W H ao n cap), .int .i64 l, .int .i64 m] w (RetMat 4 w ((0, 0, []), mcode W H n)) := by
  have HLO := fun (V : World) => Lib.hid (layoutOf_no W H ao n cap V hc)
  have hc' : (mcode W H n != 0) = true := by simpa using hc
  unfold RetNoLay at HLO
  unfold matV at *
  clear hc
  generalize mcode W H n = C at HLO hc' ⊢
  go_enter Try.func17, Try.ntmps17
  go_wp2_with fail
  refine (HLO _).out.mono ?_
  rintro e w1 ⟨rfl, hx1⟩
  have HX1 := Lib.hid (((Ext.alloc w _).trans (Ext.alloc _ _)).trans (hx1.trans (Ext.alloc w1 (.cells #[.int .i64 0, .int .i64 0, .slice none 0 0] 69))))
  have HG := Lib.hid ((hx1.trans (Ext.alloc w1 (.cells #[.int .i64 0, .int .i64 0, .slice none 0 0] 69))).new)
  rw [World.size_alloc] at HG
  clear hx1
  go_wp2_with ((with_reducible show wpList _ _ _ (⟨none, .store 24 _ _, _, _, _, _⟩ :: _) _ _); refine wpList_storeOwnK rfl 24 _ _ rfl (w.heap.size + 1) _ rfl rfl 24 _ HG.out (by kernel_rfl) (by kernel_rfl) (by kernel_rfl) w HX1.out (Nat.le_succ _) ?_; intro w3 HX3 HG3 HK3)
  refine bodyPost_ret (results_cellSlot rfl _ w3 (w.heap.size + 1) 24 _ (0, 0) _ rfl HG3.out Try.underlying24 rfl (by kernel_rfl)) rfl ?_
  exact RetMat.nil _ _ _ _ HX3



set_option maxRecDepth 20000 in
set_option maxHeartbeats 4000000 in
theorem sign_ok (n : Nat) (h1 : 1 ≤ n) (h2 : n ≤ 40) (xs : List Bool) (ao : Option Addr) (cap : Nat) (l m : Int) (w : World) (hl : xs.length = sd n * sd n) (hn0 : ao = none → cap = 0) (hr : Row w ao (bools xs)) :
    Calls Try.prog 17 #[.agg (matV (sd n) (sd n) ao (sd n * sd n) cap), .int .i64 l, .int .i64 m] w (RetMat 4 w (sgRes n xs l m)) := by
  have hsb : 21 ≤ sd n ∧ sd n ≤ 177 := by unfold sd; omega
  have hQb : 441 ≤ sd n * sd n ∧ sd n * sd n ≤ 31329 := ⟨Nat.mul_le_mul hsb.1 hsb.1, Nat.mul_le_mul hsb.2 hsb.2⟩
  have HLO := fun (V : World) => Lib.hid (layoutOf_ok n h1 h2 ao cap V)
  have HFM := fun (V : World) => Lib.hid (format_any l m V)
  have HCL := fun (V : World) (h : Row V ao (bools xs)) => Lib.hid (clone_any (sd n) (sd n) ao (sd n * sd n) cap xs V hl h hn0 (by omega))
  have HR := Lib.hid hr
  unfold RetLay at HLO
  unfold two at HFM
  unfold matV at *
  by_cases hf : (fmtRes l m).2 = 0
  · rw [sgRes_1 hf]
    have HFO := fun (bo : Option Addr) (bc : Nat) (V : World) => Lib.hid (formats_any n (sd n) bo (al n).length bc V ⟨hsb.1, by omega⟩)
    have HVE := fun (h7 : 7 ≤ n) (bo : Option Addr) (bc : Nat) (V : World) => Lib.hid (versions_any n (sd n) bo (al n).length bc V ⟨by unfold sd; omega, by omega⟩)
    have HWF := fun (word : Int) (copy : Nat) (bo : Option Addr) (bc B h oc : Nat) (ys : List Bool) (po : Option Addr) (pc : Nat) (V : World) (a1 : 15 ≤ pc ∧ pc ≤ 9223372036854775807) (a2 : Pts V po (fmL (sd n) copy 15)) (a3 : ∀ a, po = some a → a.block ≠ h) (a4 : V.ownsRow B 4 1 (.slice (some ⟨h, 0, none⟩) (sd n * sd n) oc) (sd n * sd n) (bools ys)) =>
      Lib.hid (write_any n (sd n) bo (al n).length bc (sd n) (sd n) B h (sd n * sd n) oc ys po pc (fmL (sd n) copy 15) word V hsb rfl (fmL_in _ _ hsb.1) (by rw [fmL_len]; decide) (by rw [fmL_len]; exact a1) a2 a3 a4)
    have HWV := fun (h7 : 7 ≤ n) (word : Int) (copy : Nat) (bo : Option Addr) (bc B h oc : Nat) (ys : List Bool) (po : Option Addr) (pc : Nat) (V : World) (a1 : 18 ≤ pc ∧ pc ≤ 9223372036854775807) (a2 : Pts V po (vrL (sd n) copy 18)) (a3 : ∀ a, po = some a → a.block ≠ h) (a4 : V.ownsRow B 4 1 (.slice (some ⟨h, 0, none⟩) (sd n * sd n) oc) (sd n * sd n) (bools ys)) =>
      Lib.hid (write_any n (sd n) bo (al n).length bc (sd n) (sd n) B h (sd n * sd n) oc ys po pc (vrL (sd n) copy 18) word V hsb rfl (vrL_in _ _ (by unfold sd; omega)) (by rw [vrL_len]; decide) (by rw [vrL_len]; exact a1) a2 a3 a4)
    have HVR := fun (V : World) => Lib.hid (version_any n V)
    have HSN : Hid (signN n (fmtRes l m).1 xs = if 7 ≤ n then sgV (sd n) (verRes n).1 (sgF (sd n) (fmtRes l m).1 xs) else sgF (sd n) (fmtRes l m).1 xs) := rfl
    have HV0 : Hid (7 ≤ n → (verRes n).2 = 0) := fun h7 => by rw [verRes_2 (by omega)]
    unfold RetMat
    simp only
    rw [signN_len, hl]
    simp only [fmL_len, vrL_len] at HWF HWV
    unfold RetTwo at HFO HVE
    simp only [fmL_len, vrL_len] at HFO HVE
    unfold two at HVR
    generalize fmtRes l m = F at HFM hf HSN ⊢
    obtain ⟨word, f2⟩ := F
    simp only at hf
    subst hf
    unfold OwnMat at HCL
    rw [hl] at HCL
    unfold layV matV at *
    generalize signN n word xs = SN at HSN ⊢
    simp only at HSN
    have HWF2 := HWF word
    clear HWF hr
    generalize sd n * sd n = Q at *
    have HFO0 := Lib.hid HFO
    generalize (al n).length = mm at *
    generalize sd n = k at *
    by_cases h7 : 7 ≤ n
    · rw [if_pos h7] at HSN
      have hv0 := HV0.out h7
      have HVE2 := HVE h7
      have HWV2 := HWV h7
      generalize verRes n = VV at HVR HSN hv0 HWV2
      obtain ⟨vw, v2⟩ := VV
      simp only at HVR HSN hv0
      subst hv0
      have n7 : (7 : Int) ≤ n := by omega
      have HWV3 := HWV2 vw
      clear HWV2 HWV HVE h7 HV0
      skip
      skip
      go_enter Try.func17, Try.ntmps17
      go_wp2_with fail
      refine (HLO _).out.mono ?_
      rintro e w1 ⟨bo, bc, rfl, hr1, hx1⟩
      have HX1 := Lib.hid (((Ext.alloc w _).trans (Ext.alloc _ _)).trans (hx1.trans (Ext.alloc w1 (.cells #[.int .i64 n, .int .i64 k, .slice bo mm bc] 69))))
      have HG := Lib.hid ((hx1.trans (Ext.alloc w1 (.cells #[.int .i64 n, .int .i64 k, .slice bo mm bc] 69))).new)
      rw [World.size_alloc] at HG
      obtain ⟨z0, z1, z2⟩ := box3 ((Ext.alloc _ _).trans (hx1.trans (Ext.alloc w1 (.cells #[.int .i64 n, .int .i64 k, .slice bo mm bc] 69))))
      have HS1 : Hid (w.heap.size + 1 < w1.heap.size) := Nat.lt_of_lt_of_le (by rw [World.size_alloc, World.size_alloc]; exact Nat.lt_succ_self _) hx1.size
      clear hr1 hx1
      go_wp2_with fail
      refine (HFM _).out.mono ?_
      rintro e w1' ⟨rfl, rfl⟩
      go_wp2_with fail
      refine (HCL _ (HR.out.ext HX1.out)).out.mono ?_
      rintro e w2 ⟨s, rfl, hown, hx2⟩
      obtain ⟨h, oc, rfl, hhb, hhl, hoc, hom⟩ := own_ptr hown (by omega)
      have l0 := hx2.cell (show (w1.alloc (.cells #[.int .i64 n, .int .i64 k, .slice bo mm bc] 69)).cell? ⟨w1.heap.size, 0, none⟩ = _ from (box3 (Ext.refl _)).1)
      have l1 := hx2.cell (show (w1.alloc (.cells #[.int .i64 n, .int .i64 k, .slice bo mm bc] 69)).cell? ⟨w1.heap.size, 1, none⟩ = _ from (box3 (Ext.refl _)).2.1)
      have l2 := hx2.cell (show (w1.alloc (.cells #[.int .i64 n, .int .i64 k, .slice bo mm bc] 69)).cell? ⟨w1.heap.size, 2, none⟩ = _ from (box3 (Ext.refl _)).2.2)
      have hs2 : w1.heap.size + 1 ≤ w2.heap.size := by have := hx2.size; rwa [World.size_alloc] at this
      have hhb2 : w1.heap.size + 1 ≤ h := by rwa [World.size_alloc] at hhb
      obtain ⟨W3, hW3⟩ : ∃ W3, W3 = w2.alloc (.cells #[.int .i64 k, .int .i64 k, .slice (some ⟨h, 0, none⟩) Q oc] 24) := ⟨_, rfl⟩
      have hx3 : Ext w2 W3 := by rw [hW3]; exact Ext.alloc _ _
      have hs3 : W3.heap.size = w2.heap.size + 1 := by rw [hW3, World.size_alloc]
      have HBX : Hid (∀ V, W3.grownBy V (some h) → V.cell? ⟨w1.heap.size, 0, none⟩ = some (.int .i64 n) ∧ V.cell? ⟨w1.heap.size, 1, none⟩ = some (.int .i64 k) ∧ V.cell? ⟨w1.heap.size, 2, none⟩ = some (.slice bo mm bc) ∧
          V.cell? ⟨w2.heap.size, 0, none⟩ = some (.int .i64 k) ∧ V.cell? ⟨w2.heap.size, 1, none⟩ = some (.int .i64 k) ∧ V.cell? ⟨w2.heap.size, 2, none⟩ = some (.slice (some ⟨h, 0, none⟩) Q oc)) := by
        intro V hv
        have hne : w1.heap.size ≠ h := by omega
        have hne2 : w2.heap.size ≠ h := by omega
        have e2 := box3 (Ext.refl (w2.alloc (.cells #[.int .i64 k, .int .i64 k, .slice (some ⟨h, 0, none⟩) Q oc] 24)))
        rw [← hW3] at e2
        exact ⟨grown_cell hv (hx3.cell l0) hne, grown_cell hv (hx3.cell l1) hne, grown_cell hv (hx3.cell l2) hne, grown_cell hv e2.1 hne2, grown_cell hv e2.2.1 hne2, grown_cell hv e2.2.2 hne2⟩
      have HXW3 : Hid (Ext w W3) := HX1.out.trans (hx2.trans hx3)
      have HZR : Hid (∀ V, W3.grownBy V (some h) → V.heap[w.heap.size + 1]? = some (.cells #[.int .i64 0, .int .i64 0, .slice none 0 0] 24 (0, 0))) := by
        intro V hv
        have hlt := HS1.out
        have h0 := (hx2.trans hx3).old HG.out
        exact (hv.block _ (Array.getElem?_eq_some_iff.1 h0).1 (fun e => by have := Option.some.inj e; omega)).trans h0
      have HHB : Hid (w.heap.size ≤ h ∧ h < w2.heap.size ∧ h < W3.heap.size) := by have hlt := HS1.out; exact ⟨by omega, hhl, by omega⟩
      have HHR : Hid ((Value.slice (some ⟨h, 0, none⟩) Q oc).ownBlock ≠ some (w.heap.size + 1)) := fun e => by have hlt := HS1.out; simp [Value.ownBlock] at e; omega
      have HBB : Hid (w.heap.size ≤ (w1.alloc (.cells #[.int .i64 n, .int .i64 k, .slice bo mm bc] 69)).heap.size) := by have hlt := HS1.out; show _ ≤ _; rw [World.size_alloc]; omega
      have HO3 := Lib.hid (own_extN hown hx3)
      have hz1 : w1.heap.size < w2.heap.size := by omega
      have HW3 := Lib.hid hW3
      have HOC : Hid (Q ≤ oc ∧ oc ≤ 9223372036854775807) := ⟨hoc, hom⟩
      clear hW3 hs3 hhb hhb2 hs2 hhl hoc hom hx3 hx2 hown z0 z1 z2
      go_wp2_with fail
      rw [← HW3.out]
      refine (HFO _ _ _).out.mono ?_
      rintro e w4 ⟨p1, q1, p2, q2, rfl, hp1, hp2, lq1, lq2, mq1, mq2, nb1, nb2, hx4⟩
      have hn1 : ∀ a, p1 = some a → a.block ≠ h := fun a e => by have := nb1 a e; have := HHB.out; omega
      have hn2 : ∀ a, p2 = some a → a.block ≠ h := fun a e => by have := nb2 a e; have := HHB.out; omega
      have HT1 := Lib.hid hp1
      have HT2 := Lib.hid hp2
      have HN1 := Lib.hid hn1
      have HN2 := Lib.hid hn2
      have HO4 := Lib.hid (own_extN HO3.out hx4)
      have HG4 := Lib.hid (grown_ext hx4 (some h))
      clear hp1 hp2 nb1 nb2 hx4 hn1 hn2 l0 l1 l2
      obtain ⟨l0, l1, l2, g0, g1, g2⟩ := HBX.out w4 HG4.out
      go_wp2_with fail
      skip
      skip
      refine (HWF2 0 _ _ _ _ _ xs _ _ _ ⟨lq1, mq1⟩ HT1.out HN1.out HO4.out).out.mono ?_
      rintro e w5 ⟨⟨_, rfl⟩, hown, hgr⟩
      have HO5 := Lib.hid hown
      have HG5 := Lib.hid (grown_trans HG4.out hgr)
      have HR5 := Lib.hid hgr
      clear hown hgr l0 l1 l2 g0 g1 g2
      obtain ⟨l0, l1, l2, g0, g1, g2⟩ := HBX.out w5 HG5.out
      go_wp2_with fail
      skip
      refine (HWF2 1 _ _ _ _ _ (wrN k (fmL k 0 15) word xs 15) _ _ _ ⟨lq2, mq2⟩ (HT2.out.grown HR5.out HN2.out) HN2.out HO5.out).out.mono ?_
      rintro e w6 ⟨⟨_, rfl⟩, hown, hgr⟩
      have HO6 := Lib.hid hown
      have HG6 := Lib.hid (grown_trans HG5.out hgr)
      have HR6 := Lib.hid hgr
      clear hown hgr l0 l1 l2 g0 g1 g2
      obtain ⟨l0, l1, l2, g0, g1, g2⟩ := HBX.out w6 HG6.out
      go_wp2_with fail
      refine (HVR _).out.mono ?_
      rintro e w6' ⟨rfl, rfl⟩
      go_wp2_with fail
      refine (HVE2 _ _ _).out.mono ?_
      rintro e w7 ⟨p3, q3, p4, q4, rfl, hp3, hp4, lq3, lq4, mq3, mq4, nb3, nb4, hx7⟩
      have hhs : h < w6.heap.size := Nat.lt_of_lt_of_le HHB.out.2.2 HG6.out.size
      have HN3 : Hid (∀ a, p3 = some a → a.block ≠ h) := fun a e => by have := nb3 a e; omega
      have HN4 : Hid (∀ a, p4 = some a → a.block ≠ h) := fun a e => by have := nb4 a e; omega
      have HT3 := Lib.hid hp3
      have HT4 := Lib.hid hp4
      have HO7 := Lib.hid (own_extN HO6.out hx7)
      have HG7 := Lib.hid (grown_trans HG6.out (grown_ext hx7 (some h)))
      clear hp3 hp4 nb3 nb4 hx7 hhs l0 l1 l2 g0 g1 g2
      obtain ⟨l0, l1, l2, g0, g1, g2⟩ := HBX.out w7 HG7.out
      go_wp2_with fail
      skip
      refine (HWV3 0 _ _ _ _ _ (sgF k word xs) _ _ _ ⟨lq3, mq3⟩ HT3.out HN3.out HO7.out).out.mono ?_
      rintro e w8 ⟨⟨_, rfl⟩, hown, hgr⟩
      have HO8 := Lib.hid hown
      have HG8 := Lib.hid (grown_trans HG7.out hgr)
      have HR8 := Lib.hid hgr
      clear hown hgr l0 l1 l2 g0 g1 g2
      obtain ⟨l0, l1, l2, g0, g1, g2⟩ := HBX.out w8 HG8.out
      go_wp2_with fail
      skip
      refine (HWV3 1 _ _ _ _ _ (wrN k (vrL k 0 18) vw (sgF k word xs) 18) _ _ _ ⟨lq4, mq4⟩ (HT4.out.grown HR8.out HN4.out) HN4.out HO8.out).out.mono ?_
      rintro e w9 ⟨⟨_, rfl⟩, hown, hgr⟩
      have HO9 := Lib.hid hown
      have HG9 := Lib.hid (grown_trans HG8.out hgr)
      have HR9 := Lib.hid hgr
      clear hown hgr l0 l1 l2 g0 g1 g2
      obtain ⟨l0, l1, l2, g0, g1, g2⟩ := HBX.out w9 HG9.out
      skip
      go_wp2_with ((with_reducible show wpList _ _ _ (⟨none, .store 24 _ _, _, _, _, _⟩ :: _) _ _); refine wpList_storeOwnK rfl 24 _ _ rfl (w.heap.size + 1) _ rfl rfl 24 _ (HZR.out _ HG9.out) (by kernel_rfl) (by kernel_rfl) (by kernel_rfl) w (ext_grown HXW3.out HG9.out HHB.out.1) (Nat.le_succ _) ?_; intro wz HXz HGz HKz)
      refine bodyPost_ret (results_cellSlot rfl _ wz (w.heap.size + 1) 24 _ (0, 0) _ rfl HGz.out Try.underlying24 rfl (by kernel_rfl)) rfl ?_
      exact ⟨_, rfl, by rw [HSN.out]; exact own_base (own_off HO9.out HKz.out HHR.out) HBB.out, HXz⟩
    · rw [if_neg h7] at HSN
      have n7 : (n : Int) < 7 := by omega
      clear HWV HVE h7 HV0
      skip
      skip
      go_enter Try.func17, Try.ntmps17
      go_wp2_with fail
      refine (HLO _).out.mono ?_
      rintro e w1 ⟨bo, bc, rfl, hr1, hx1⟩
      have HX1 := Lib.hid (((Ext.alloc w _).trans (Ext.alloc _ _)).trans (hx1.trans (Ext.alloc w1 (.cells #[.int .i64 n, .int .i64 k, .slice bo mm bc] 69))))
      have HG := Lib.hid ((hx1.trans (Ext.alloc w1 (.cells #[.int .i64 n, .int .i64 k, .slice bo mm bc] 69))).new)
      rw [World.size_alloc] at HG
      obtain ⟨z0, z1, z2⟩ := box3 ((Ext.alloc _ _).trans (hx1.trans (Ext.alloc w1 (.cells #[.int .i64 n, .int .i64 k, .slice bo mm bc] 69))))
      have HS1 : Hid (w.heap.size + 1 < w1.heap.size) := Nat.lt_of_lt_of_le (by rw [World.size_alloc, World.size_alloc]; exact Nat.lt_succ_self _) hx1.size
      clear hr1 hx1
      go_wp2_with fail
      refine (HFM _).out.mono ?_
      rintro e w1' ⟨rfl, rfl⟩
      go_wp2_with fail
      refine (HCL _ (HR.out.ext HX1.out)).out.mono ?_
      rintro e w2 ⟨s, rfl, hown, hx2⟩
      obtain ⟨h, oc, rfl, hhb, hhl, hoc, hom⟩ := own_ptr hown (by omega)
      have l0 := hx2.cell (show (w1.alloc (.cells #[.int .i64 n, .int .i64 k, .slice bo mm bc] 69)).cell? ⟨w1.heap.size, 0, none⟩ = _ from (box3 (Ext.refl _)).1)
      have l1 := hx2.cell (show (w1.alloc (.cells #[.int .i64 n, .int .i64 k, .slice bo mm bc] 69)).cell? ⟨w1.heap.size, 1, none⟩ = _ from (box3 (Ext.refl _)).2.1)
      have l2 := hx2.cell (show (w1.alloc (.cells #[.int .i64 n, .int .i64 k, .slice bo mm bc] 69)).cell? ⟨w1.heap.size, 2, none⟩ = _ from (box3 (Ext.refl _)).2.2)
      have hs2 : w1.heap.size + 1 ≤ w2.heap.size := by have := hx2.size; rwa [World.size_alloc] at this
      have hhb2 : w1.heap.size + 1 ≤ h := by rwa [World.size_alloc] at hhb
      obtain ⟨W3, hW3⟩ : ∃ W3, W3 = w2.alloc (.cells #[.int .i64 k, .int .i64 k, .slice (some ⟨h, 0, none⟩) Q oc] 24) := ⟨_, rfl⟩
      have hx3 : Ext w2 W3 := by rw [hW3]; exact Ext.alloc _ _
      have hs3 : W3.heap.size = w2.heap.size + 1 := by rw [hW3, World.size_alloc]
      have HBX : Hid (∀ V, W3.grownBy V (some h) → V.cell? ⟨w1.heap.size, 0, none⟩ = some (.int .i64 n) ∧ V.cell? ⟨w1.heap.size, 1, none⟩ = some (.int .i64 k) ∧ V.cell? ⟨w1.heap.size, 2, none⟩ = some (.slice bo mm bc) ∧
          V.cell? ⟨w2.heap.size, 0, none⟩ = some (.int .i64 k) ∧ V.cell? ⟨w2.heap.size, 1, none⟩ = some (.int .i64 k) ∧ V.cell? ⟨w2.heap.size, 2, none⟩ = some (.slice (some ⟨h, 0, none⟩) Q oc)) := by
        intro V hv
        have hne : w1.heap.size ≠ h := by omega
        have hne2 : w2.heap.size ≠ h := by omega
        have e2 := box3 (Ext.refl (w2.alloc (.cells #[.int .i64 k, .int .i64 k, .slice (some ⟨h, 0, none⟩) Q oc] 24)))
        rw [← hW3] at e2
        exact ⟨grown_cell hv (hx3.cell l0) hne, grown_cell hv (hx3.cell l1) hne, grown_cell hv (hx3.cell l2) hne, grown_cell hv e2.1 hne2, grown_cell hv e2.2.1 hne2, grown_cell hv e2.2.2 hne2⟩
      have HXW3 : Hid (Ext w W3) := HX1.out.trans (hx2.trans hx3)
      have HZR : Hid (∀ V, W3.grownBy V (some h) → V.heap[w.heap.size + 1]? = some (.cells #[.int .i64 0, .int .i64 0, .slice none 0 0] 24 (0, 0))) := by
        intro V hv
        have hlt := HS1.out
        have h0 := (hx2.trans hx3).old HG.out
        exact (hv.block _ (Array.getElem?_eq_some_iff.1 h0).1 (fun e => by have := Option.some.inj e; omega)).trans h0
      have HHB : Hid (w.heap.size ≤ h ∧ h < w2.heap.size ∧ h < W3.heap.size) := by have hlt := HS1.out; exact ⟨by omega, hhl, by omega⟩
      have HHR : Hid ((Value.slice (some ⟨h, 0, none⟩) Q oc).ownBlock ≠ some (w.heap.size + 1)) := fun e => by have hlt := HS1.out; simp [Value.ownBlock] at e; omega
      have HBB : Hid (w.heap.size ≤ (w1.alloc (.cells #[.int .i64 n, .int .i64 k, .slice bo mm bc] 69)).heap.size) := by have hlt := HS1.out; show _ ≤ _; rw [World.size_alloc]; omega
      have HO3 := Lib.hid (own_extN hown hx3)
      have hz1 : w1.heap.size < w2.heap.size := by omega
      have HW3 := Lib.hid hW3
      have HOC : Hid (Q ≤ oc ∧ oc ≤ 9223372036854775807) := ⟨hoc, hom⟩
      clear hW3 hs3 hhb hhb2 hs2 hhl hoc hom hx3 hx2 hown z0 z1 z2
      go_wp2_with fail
      rw [← HW3.out]
      refine (HFO _ _ _).out.mono ?_
      rintro e w4 ⟨p1, q1, p2, q2, rfl, hp1, hp2, lq1, lq2, mq1, mq2, nb1, nb2, hx4⟩
      have hn1 : ∀ a, p1 = some a → a.block ≠ h := fun a e => by have := nb1 a e; have := HHB.out; omega
      have hn2 : ∀ a, p2 = some a → a.block ≠ h := fun a e => by have := nb2 a e; have := HHB.out; omega
      have HT1 := Lib.hid hp1
      have HT2 := Lib.hid hp2
      have HN1 := Lib.hid hn1
      have HN2 := Lib.hid hn2
      have HO4 := Lib.hid (own_extN HO3.out hx4)
      have HG4 := Lib.hid (grown_ext hx4 (some h))
      clear hp1 hp2 nb1 nb2 hx4 hn1 hn2 l0 l1 l2
      obtain ⟨l0, l1, l2, g0, g1, g2⟩ := HBX.out w4 HG4.out
      go_wp2_with fail
      skip
      skip
      refine (HWF2 0 _ _ _ _ _ xs _ _ _ ⟨lq1, mq1⟩ HT1.out HN1.out HO4.out).out.mono ?_
      rintro e w5 ⟨⟨_, rfl⟩, hown, hgr⟩
      have HO5 := Lib.hid hown
      have HG5 := Lib.hid (grown_trans HG4.out hgr)
      have HR5 := Lib.hid hgr
      clear hown hgr l0 l1 l2 g0 g1 g2
      obtain ⟨l0, l1, l2, g0, g1, g2⟩ := HBX.out w5 HG5.out
      go_wp2_with fail
      skip
      refine (HWF2 1 _ _ _ _ _ (wrN k (fmL k 0 15) word xs 15) _ _ _ ⟨lq2, mq2⟩ (HT2.out.grown HR5.out HN2.out) HN2.out HO5.out).out.mono ?_
      rintro e w6 ⟨⟨_, rfl⟩, hown, hgr⟩
      have HO6 := Lib.hid hown
      have HG6 := Lib.hid (grown_trans HG5.out hgr)
      have HR6 := Lib.hid hgr
      clear hown hgr l0 l1 l2 g0 g1 g2
      obtain ⟨l0, l1, l2, g0, g1, g2⟩ := HBX.out w6 HG6.out
      skip
      go_wp2_with ((with_reducible show wpList _ _ _ (⟨none, .store 24 _ _, _, _, _, _⟩ :: _) _ _); refine wpList_storeOwnK rfl 24 _ _ rfl (w.heap.size + 1) _ rfl rfl 24 _ (HZR.out _ HG6.out) (by kernel_rfl) (by kernel_rfl) (by kernel_rfl) w (ext_grown HXW3.out HG6.out HHB.out.1) (Nat.le_succ _) ?_; intro wz HXz HGz HKz)
      refine bodyPost_ret (results_cellSlot rfl _ wz (w.heap.size + 1) 24 _ (0, 0) _ rfl HGz.out Try.underlying24 rfl (by kernel_rfl)) rfl ?_
      exact ⟨_, rfl, by rw [HSN.out]; exact own_base (own_off HO6.out HKz.out HHR.out) HBB.out, HXz⟩
  · rw [sgRes_2 hf]
    generalize fmtRes l m = F at HFM hf ⊢
    obtain ⟨word, f2⟩ := F
    have hf' : (f2 != 0) = true := by simpa using hf
    clear hf HCL
    unfold layV at *
    generalize (al n).length = mm at *
    generalize sd n * sd n = Q at *
    generalize sd n = k at *
    simp only at HFM ⊢
    skip
    go_enter Try.func17, Try.ntmps17
    go_wp2_with fail
    refine (HLO _).out.mono ?_
    rintro e w1 ⟨bo, bc, rfl, hr1, hx1⟩
    have HX1 := Lib.hid (((Ext.alloc w _).trans (Ext.alloc _ _)).trans (hx1.trans (Ext.alloc w1 (.cells #[.int .i64 n, .int .i64 k, .slice bo mm bc] 69))))
    have HG := Lib.hid ((hx1.trans (Ext.alloc w1 (.cells #[.int .i64 n, .int .i64 k, .slice bo mm bc] 69))).new)
    rw [World.size_alloc] at HG
    obtain ⟨z0, z1, z2⟩ := box3 ((Ext.alloc _ _).trans (hx1.trans (Ext.alloc w1 (.cells #[.int .i64 n, .int .i64 k, .slice bo mm bc] 69))))
    have HS1 : Hid (w.heap.size + 1 < w1.heap.size) := Nat.lt_of_lt_of_le (by rw [World.size_alloc, World.size_alloc]; exact Nat.lt_succ_self _) hx1.size
    clear hr1 hx1
    go_wp2_with fail
    refine (HFM _).out.mono ?_
    rintro e w1' ⟨rfl, rfl⟩
    go_wp2_with ((with_reducible show wpList _ _ _ (⟨none, .store 24 _ _, _, _, _, _⟩ :: _) _ _); refine wpList_storeOwnK rfl 24 _ _ rfl (w.heap.size + 1) _ rfl rfl 24 _ HG.out (by kernel_rfl) (by kernel_rfl) (by kernel_rfl) w HX1.out (Nat.le_succ _) ?_; intro w3 HX3 HG3 HK3)
    refine bodyPost_ret (results_cellSlot rfl _ w3 (w.heap.size + 1) 24 _ (0, 0) _ rfl HG3.out Try.underlying24 rfl (by kernel_rfl)) rfl ?_
    exact RetMat.nil _ _ _ _ HX3

end Go.Proofs.Ytjkpdhcnklgfbaa

namespace Go.Proofs.Ytjkpdhcnklgfbaa
open Go.RowKit Go.Bs Go.Qrv Go.Lay

/-- A point is returned. -/
def RetPt (w : World) (p : Nat × Nat) (e : Ending) (w' : World) : Prop := e = .returned (.agg #[.int .i64 (p.1 : Int), .int .i64 (p.2 : Int)]) ∧ Ext w w'

theorem fmAt_cases {s copy i : Nat} (hs : 21 ≤ s) (hc : copy ≤ 1) (hi : i < 15) :
    (copy = 1 ∧ i < 8 ∧ ∃ X : Nat, (s : Int) - 1 - (i : Int) = (X : Int) ∧ fmAt s copy i = (X, 8)) ∨ (copy = 1 ∧ 8 ≤ i ∧ ∃ X : Nat, (s : Int) - 15 + (i : Int) = (X : Int) ∧ fmAt s copy i = (8, X)) ∨
    (copy = 0 ∧ i < 6 ∧ fmAt s copy i = (8, i)) ∨ (copy = 0 ∧ 6 ≤ i ∧ i < 8 ∧ ∃ X : Nat, (i : Int) + 1 = (X : Int) ∧ fmAt s copy i = (8, X)) ∨ (copy = 0 ∧ i = 8 ∧ fmAt s copy i = (7, 8)) ∨
    (copy = 0 ∧ 8 < i ∧ ((i : Int) == 8) = false ∧ ∃ X : Nat, 14 - (i : Int) = (X : Int) ∧ fmAt s copy i = (X, 8)) := by
  by_cases h1 : copy = 1
  · subst h1
    by_cases h2 : i < 8
    · refine .inl ⟨rfl, h2, s - 1 - i, by omega, ?_⟩
      unfold fmAt; rw [if_pos rfl, if_pos h2]
    · refine .inr (.inl ⟨rfl, by omega, s - 15 + i, by omega, ?_⟩)
      unfold fmAt; rw [if_pos rfl, if_neg h2]
  · have h0 : copy = 0 := by omega
    subst h0
    by_cases h2 : i < 6
    · refine .inr (.inr (.inl ⟨rfl, h2, ?_⟩))
      unfold fmAt; rw [if_neg (by decide), if_pos h2]
    · by_cases h3 : i < 8
      · refine .inr (.inr (.inr (.inl ⟨rfl, by omega, h3, i + 1, by omega, ?_⟩)))
        unfold fmAt; rw [if_neg (by decide), if_neg h2, if_pos h3]
      · by_cases h4 : i = 8
        · subst h4
          exact .inr (.inr (.inr (.inr (.inl ⟨rfl, rfl, rfl⟩))))
        · refine .inr (.inr (.inr (.inr (.inr ⟨rfl, by omega, by simp; omega, 14 - i, by omega, ?_⟩))))
          unfold fmAt; rw [if_neg (by decide), if_neg h2, if_neg h3, if_neg h4]


set_option maxRecDepth 20000 in
set_option maxHeartbeats 1000000 in
theorem formatAt_any (s copy i : Nat) (w : World) (hs : 21 ≤ s ∧ s ≤ 1000) (hc : copy ≤ 1) (hi : i < 15) :
    Calls Try.prog 22 #[.int .i64 s, .int .i64 copy, .int .i64 i] w (RetPt w (fmAt s copy i)) := by
  unfold RetPt
  rcases fmAt_cases hs.1 hc hi with ⟨rfl, h1, X, hX, h⟩ | ⟨rfl, h1, X, hX, h⟩ | ⟨rfl, h1, h⟩ | ⟨rfl, h1, h2, X, hX, h⟩ | ⟨rfl, rfl, h⟩ | ⟨rfl, h1, h2, X, hX, h⟩
  all_goals
    rw [h]
    clear h hc
    skip
    go_enter Try.func22, Try.ntmps22
    go_wp2_with ((with_reducible show wpList _ _ _ (⟨none, .store 45 _ _, _, _, _, _⟩ :: _) _ _); refine wpList_storeOwnK rfl 45 _ _ rfl w.heap.size _ rfl rfl 45 _ (heap_alloc_new _ _) (by kernel_rfl) (by kernel_rfl) (by kernel_rfl) w (Ext.alloc _ _) (Nat.le_refl _) ?_; intro wz HXz HGz HKz)
    exact bodyPost_ret (results_cellOne rfl _ wz w.heap.size 45 _ (0, 0) _ rfl HGz.out Try.underlying45 rfl (by kernel_rfl)) rfl ⟨rfl, HXz⟩

set_option maxRecDepth 20000 in
set_option maxHeartbeats 1000000 in
theorem versionAt_any (s copy i : Nat) (w : World) (hs : 45 ≤ s ∧ s ≤ 1000) (hc : copy ≤ 1) (hi : i < 18) :
    Calls Try.prog 21 #[.int .i64 s, .int .i64 copy, .int .i64 i] w (RetPt w (vrAt s copy i)) := by
  unfold RetPt
  obtain ⟨F, N, hF, hN, e0, e1⟩ := vr_at s i hs.1
  have hcc : copy = 0 ∨ copy = 1 := by omega
  rcases hcc with rfl | rfl
  · rw [e0]
    clear e0 e1
    skip
    go_enter Try.func21, Try.ntmps21
    go_wp2_with ((with_reducible show wpList _ _ _ (⟨none, .store 45 _ _, _, _, _, _⟩ :: _) _ _); refine wpList_storeOwnK rfl 45 _ _ rfl w.heap.size _ rfl rfl 45 _ (heap_alloc_new _ _) (by kernel_rfl) (by kernel_rfl) (by kernel_rfl) w (Ext.alloc _ _) (Nat.le_refl _) ?_; intro wz HXz HGz HKz)
    exact bodyPost_ret (results_cellOne rfl _ wz w.heap.size 45 _ (0, 0) _ rfl HGz.out Try.underlying45 rfl (by kernel_rfl)) rfl ⟨rfl, HXz⟩
  · rw [e1]
    clear e0 e1
    skip
    go_enter Try.func21, Try.ntmps21
    go_wp2_with ((with_reducible show wpList _ _ _ (⟨none, .store 45 _ _, _, _, _, _⟩ :: _) _ _); refine wpList_storeOwnK rfl 45 _ _ rfl w.heap.size _ rfl rfl 45 _ (heap_alloc_new _ _) (by kernel_rfl) (by kernel_rfl) (by kernel_rfl) w (Ext.alloc _ _) (Nat.le_refl _) ?_; intro wz HXz HGz HKz)
    exact bodyPost_ret (results_cellOne rfl _ wz w.heap.size 45 _ (0, 0) _ rfl HGz.out Try.underlying45 rfl (by kernel_rfl)) rfl ⟨rfl, HXz⟩

set_option maxRecDepth 20000 in
set_option maxHeartbeats 1000000 in
theorem same20_any (W H W' H' : Int) (ao bo : Option Addr) (la ca lb cb : Nat) (xs ys : List Bool) (w : World) (hx : xs.length = la) (hy : ys.length = lb) (hb : la ≤ 4611686018427387904) (hr : Row w ao (bools xs)) (hs : Row w bo (bools ys)) :
    Calls Try.prog 16 #[.agg (matV W H ao la ca), .agg (matV W' H' bo lb cb)] w fun e w' => e = .returned (.bool (W == W' && H == H' && xs == ys)) ∧ Ext w w' := by
  have HSA := fun (V : World) (h1 : Row V ao (bools xs)) (h2 : Row V bo (bools ys)) => Lib.hid (same_any ao bo la ca lb cb xs ys V hx hy hb h1 h2)
  have HR := Lib.hid hr
  have HS := Lib.hid hs
  clear hr hs hx hy hb
  generalize (xs == ys) = E at HSA ⊢
  unfold matV
  cases h1 : W == W'
  · go_enter Try.func16, Try.ntmps16
    go_wp2_with fail
    go_ret
    exact ⟨rfl, (Ext.alloc _ _).trans (Ext.alloc _ _)⟩
  · cases h2 : H == H'
    · go_enter Try.func16, Try.ntmps16
      go_wp2_with fail
      go_ret
      exact ⟨rfl, (Ext.alloc _ _).trans (Ext.alloc _ _)⟩
    · go_enter Try.func16, Try.ntmps16
      go_wp2_with fail
      refine (HSA _ (HR.out.ext ((Ext.alloc _ _).trans (Ext.alloc _ _))) (HS.out.ext ((Ext.alloc _ _).trans (Ext.alloc _ _)))).out.mono ?_
      rintro e w1 ⟨rfl, hx1⟩
      have HX1 := Lib.hid hx1
      clear hx1
      go_wp2_with fail
      go_ret
      exact ⟨rfl, ((Ext.alloc _ _).trans (Ext.alloc _ _)).trans HX1.out⟩

end Go.Proofs.Ytjkpdhcnklgfbaa
