/-
  Plain: the best segments of the two payloads of the examples.
  No program; no condition.
-/
import Derived.Test.YthebfpolijajgaaBestC
namespace Go.Mode
open Go Go.Bs

instance decPl : DecidableEq Pl := fun a b => decidable_of_iff (a.bits = b.bits ∧ a.seg = b.seg ∧ a.len = b.len ∧ a.mode = b.mode) ⟨fun h => by cases a; cases b; simp only [Pl.mk.injEq]; exact h, fun h => by subst h; exact ⟨rfl, rfl, rfl, rfl⟩⟩

/-- One step of the table: x is a candidate, and none is less. -/
theorem tabs_step (k : Nat) (c : UInt8) (r : List UInt8) (T : List Pl) (x : Pl) (hT : tabs k r = T) (h : ((candsL k (c :: r) fun n => T.getD (n - 1) zeroP).any (fun d => decide (d = x)) && (candsL k (c :: r) fun n => T.getD (n - 1) zeroP).all (fun d => !decide (d.lt x))) = true) :
    tabs k (c :: r) = x :: T := by
  rw [tabs, hT]
  rw [Bool.and_eq_true, List.any_eq_true, List.all_eq_true] at h
  obtain ⟨⟨d, hd, hdx⟩, hall⟩ := h
  have hdx : d = x := of_decide_eq_true hdx
  subst hdx
  obtain ⟨h1, h2⟩ := leastL_spec (candsL k (c :: r) fun n => T.getD (n - 1) zeroP) (List.ne_nil_of_mem hd)
  have h3 := hall _ h1
  simp only [Bool.not_eq_true', decide_eq_false_iff_not] at h3
  rw [Pl.eq_of h3 (h2 d hd)]
theorem tabs_nil (k : Nat) : tabs k [] = [⟨0, 0, 0, 0⟩] := rfl

theorem hw_1 : tabs 0 [68] = [⟨19, 1, 1, 2⟩, ⟨0, 0, 0, 0⟩] := tabs_step 0 68 [] _ _ (tabs_nil 0) (by decide +kernel)
theorem hw_2 : tabs 0 [76, 68] = [⟨24, 1, 2, 2⟩, ⟨19, 1, 1, 2⟩, ⟨0, 0, 0, 0⟩] := tabs_step 0 76 [68] _ _ (hw_1) (by decide +kernel)
theorem hw_3 : tabs 0 [82, 76, 68] = [⟨30, 1, 3, 2⟩, ⟨24, 1, 2, 2⟩, ⟨19, 1, 1, 2⟩, ⟨0, 0, 0, 0⟩] := tabs_step 0 82 [76, 68] _ _ (hw_2) (by decide +kernel)
theorem hw_4 : tabs 0 [79, 82, 76, 68] = [⟨35, 1, 4, 2⟩, ⟨30, 1, 3, 2⟩, ⟨24, 1, 2, 2⟩, ⟨19, 1, 1, 2⟩, ⟨0, 0, 0, 0⟩] := tabs_step 0 79 [82, 76, 68] _ _ (hw_3) (by decide +kernel)
theorem hw_5 : tabs 0 [87, 79, 82, 76, 68] = [⟨41, 1, 5, 2⟩, ⟨35, 1, 4, 2⟩, ⟨30, 1, 3, 2⟩, ⟨24, 1, 2, 2⟩, ⟨19, 1, 1, 2⟩, ⟨0, 0, 0, 0⟩] := tabs_step 0 87 [79, 82, 76, 68] _ _ (hw_4) (by decide +kernel)
theorem hw_6 : tabs 0 [32, 87, 79, 82, 76, 68] = [⟨46, 1, 6, 2⟩, ⟨41, 1, 5, 2⟩, ⟨35, 1, 4, 2⟩, ⟨30, 1, 3, 2⟩, ⟨24, 1, 2, 2⟩, ⟨19, 1, 1, 2⟩, ⟨0, 0, 0, 0⟩] := tabs_step 0 32 [87, 79, 82, 76, 68] _ _ (hw_5) (by decide +kernel)
theorem hw_7 : tabs 0 [79, 32, 87, 79, 82, 76, 68] = [⟨52, 1, 7, 2⟩, ⟨46, 1, 6, 2⟩, ⟨41, 1, 5, 2⟩, ⟨35, 1, 4, 2⟩, ⟨30, 1, 3, 2⟩, ⟨24, 1, 2, 2⟩, ⟨19, 1, 1, 2⟩, ⟨0, 0, 0, 0⟩] := tabs_step 0 79 [32, 87, 79, 82, 76, 68] _ _ (hw_6) (by decide +kernel)
theorem hw_8 : tabs 0 [76, 79, 32, 87, 79, 82, 76, 68] = [⟨57, 1, 8, 2⟩, ⟨52, 1, 7, 2⟩, ⟨46, 1, 6, 2⟩, ⟨41, 1, 5, 2⟩, ⟨35, 1, 4, 2⟩, ⟨30, 1, 3, 2⟩, ⟨24, 1, 2, 2⟩, ⟨19, 1, 1, 2⟩, ⟨0, 0, 0, 0⟩] := tabs_step 0 76 [79, 32, 87, 79, 82, 76, 68] _ _ (hw_7) (by decide +kernel)
theorem hw_9 : tabs 0 [76, 76, 79, 32, 87, 79, 82, 76, 68] = [⟨63, 1, 9, 2⟩, ⟨57, 1, 8, 2⟩, ⟨52, 1, 7, 2⟩, ⟨46, 1, 6, 2⟩, ⟨41, 1, 5, 2⟩, ⟨35, 1, 4, 2⟩, ⟨30, 1, 3, 2⟩, ⟨24, 1, 2, 2⟩, ⟨19, 1, 1, 2⟩, ⟨0, 0, 0, 0⟩] := tabs_step 0 76 [76, 79, 32, 87, 79, 82, 76, 68] _ _ (hw_8) (by decide +kernel)
theorem hw_10 : tabs 0 [69, 76, 76, 79, 32, 87, 79, 82, 76, 68] = [⟨68, 1, 10, 2⟩, ⟨63, 1, 9, 2⟩, ⟨57, 1, 8, 2⟩, ⟨52, 1, 7, 2⟩, ⟨46, 1, 6, 2⟩, ⟨41, 1, 5, 2⟩, ⟨35, 1, 4, 2⟩, ⟨30, 1, 3, 2⟩, ⟨24, 1, 2, 2⟩, ⟨19, 1, 1, 2⟩, ⟨0, 0, 0, 0⟩] := tabs_step 0 69 [76, 76, 79, 32, 87, 79, 82, 76, 68] _ _ (hw_9) (by decide +kernel)
theorem hw_11 : tabs 0 [72, 69, 76, 76, 79, 32, 87, 79, 82, 76, 68] = [⟨74, 1, 11, 2⟩, ⟨68, 1, 10, 2⟩, ⟨63, 1, 9, 2⟩, ⟨57, 1, 8, 2⟩, ⟨52, 1, 7, 2⟩, ⟨46, 1, 6, 2⟩, ⟨41, 1, 5, 2⟩, ⟨35, 1, 4, 2⟩, ⟨30, 1, 3, 2⟩, ⟨24, 1, 2, 2⟩, ⟨19, 1, 1, 2⟩, ⟨0, 0, 0, 0⟩] := tabs_step 0 72 [69, 76, 76, 79, 32, 87, 79, 82, 76, 68] _ _ (hw_10) (by decide +kernel)
theorem hw_plan : plan 0 [72, 69, 76, 76, 79, 32, 87, 79, 82, 76, 68] = ⟨74, 1, 11, 2⟩ := by unfold plan; rw [hw_11]; rfl
theorem hw_best : bestL 0 [72, 69, 76, 76, 79, 32, 87, 79, 82, 76, 68] = [(2, [72, 69, 76, 76, 79, 32, 87, 79, 82, 76, 68])] := by
  rw [Go.Proofs.Ythebfpolijajgaa.bestL_cons 0 _ (by decide), hw_plan]
  rfl
theorem ab_1 : tabs 0 [51] = [⟨18, 1, 1, 1⟩, ⟨0, 0, 0, 0⟩] := tabs_step 0 51 [] _ _ (tabs_nil 0) (by decide +kernel)
theorem ab_2 : tabs 0 [50, 51] = [⟨21, 1, 2, 1⟩, ⟨18, 1, 1, 1⟩, ⟨0, 0, 0, 0⟩] := tabs_step 0 50 [51] _ _ (ab_1) (by decide +kernel)
theorem ab_3 : tabs 0 [49, 50, 51] = [⟨24, 1, 3, 1⟩, ⟨21, 1, 2, 1⟩, ⟨18, 1, 1, 1⟩, ⟨0, 0, 0, 0⟩] := tabs_step 0 49 [50, 51] _ _ (ab_2) (by decide +kernel)
theorem ab_4 : tabs 0 [99, 49, 50, 51] = [⟨44, 1, 4, 4⟩, ⟨24, 1, 3, 1⟩, ⟨21, 1, 2, 1⟩, ⟨18, 1, 1, 1⟩, ⟨0, 0, 0, 0⟩] := tabs_step 0 99 [49, 50, 51] _ _ (ab_3) (by decide +kernel)
theorem ab_5 : tabs 0 [98, 99, 49, 50, 51] = [⟨52, 1, 5, 4⟩, ⟨44, 1, 4, 4⟩, ⟨24, 1, 3, 1⟩, ⟨21, 1, 2, 1⟩, ⟨18, 1, 1, 1⟩, ⟨0, 0, 0, 0⟩] := tabs_step 0 98 [99, 49, 50, 51] _ _ (ab_4) (by decide +kernel)
theorem ab_6 : tabs 0 [97, 98, 99, 49, 50, 51] = [⟨60, 1, 6, 4⟩, ⟨52, 1, 5, 4⟩, ⟨44, 1, 4, 4⟩, ⟨24, 1, 3, 1⟩, ⟨21, 1, 2, 1⟩, ⟨18, 1, 1, 1⟩, ⟨0, 0, 0, 0⟩] := tabs_step 0 97 [98, 99, 49, 50, 51] _ _ (ab_5) (by decide +kernel)
theorem ab_plan : plan 0 [97, 98, 99, 49, 50, 51] = ⟨60, 1, 6, 4⟩ := by unfold plan; rw [ab_6]; rfl
theorem ab_best : bestL 0 [97, 98, 99, 49, 50, 51] = [(4, [97, 98, 99, 49, 50, 51])] := by
  rw [Go.Proofs.Ythebfpolijajgaa.bestL_cons 0 _ (by decide), ab_plan]
  rfl

end Go.Mode
