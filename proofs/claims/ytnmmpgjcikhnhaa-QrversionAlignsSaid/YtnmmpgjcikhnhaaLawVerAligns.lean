/-
  For every input QrversionAligns returns true, and each argument reads afterwards as it read before (Rows.QrversionAlignsSaid).
  No condition.
-/
import Derived.Test.YtnmmpgjcikhnhaaVerBase
namespace Go.Proofs.Ytnmmpgjcikhnhaa
open Go.RowKit Go.Bs Go.ChangeShapes Go.WideShapes Go.ChangeAt Go.Joins Go.Qrv

def alOk (n : Nat) : Bool :=
  let l := al n
  l.length == n / 7 + 2 && l.getD 0 0 == 6 && l.getD (n / 7 + 1) 0 == 4 * n + 10 && (List.range (n / 7 + 2)).all fun i =>
    decide (0 ≤ l.getD i 0 ∧ l.getD i 0 ≤ 200) && (i == 0 || (decide ((l.getD i 0 - l.getD (i - 1) 0) % 2 = 0) && decide (12 ≤ l.getD i 0 - l.getD (i - 1) 0 ∧ l.getD i 0 - l.getD (i - 1) 0 ≤ 28) &&
      (i == 1 || l.getD i 0 - l.getD (i - 1) 0 == l.getD (n / 7 + 1) 0 - l.getD (n / 7) 0)))
theorem alOk_all : ∀ i : Fin 39, alOk (i.val + 2) = true := by decide +kernel

theorem getD_at (l : List Int) (i : Nat) (h : i < l.length) : l.getD i 0 = l[i] := by simp [List.getD, h]

theorem al_facts (n : Nat) (h1 : 2 ≤ n) (h2 : n ≤ 40) : (al n).length = n / 7 + 2 ∧ (al n).getD 0 0 = 6 ∧ (al n).getD (n / 7 + 1) 0 = 4 * n + 10 ∧ ∀ i, i < n / 7 + 2 →
    (0 ≤ (al n).getD i 0 ∧ (al n).getD i 0 ≤ 200) ∧ (1 ≤ i → ((al n).getD i 0 - (al n).getD (i - 1) 0) % 2 = 0 ∧ 12 ≤ (al n).getD i 0 - (al n).getD (i - 1) 0 ∧ (al n).getD i 0 - (al n).getD (i - 1) 0 ≤ 28 ∧
      (i = 1 ∨ (al n).getD i 0 - (al n).getD (i - 1) 0 = (al n).getD (n / 7 + 1) 0 - (al n).getD (n / 7) 0)) := by
  have h := alOk_all ⟨n - 2, by omega⟩
  simp only [show n - 2 + 2 = n by omega] at h
  unfold alOk at h
  simp only [Bool.and_eq_true, beq_iff_eq, List.all_eq_true, List.mem_range, decide_eq_true_eq, Bool.or_eq_true] at h
  obtain ⟨⟨⟨a, b⟩, c⟩, d⟩ := h
  refine ⟨a, b, c, fun i hi => ?_⟩
  obtain ⟨e, f⟩ := d i hi
  refine ⟨e, fun h1 => ?_⟩
  rcases f with f | ⟨⟨f1, f2⟩, f3⟩
  · omega
  · exact ⟨f1, f2.1, f2.2, f3⟩

set_option maxRecDepth 20000 in
set_option maxHeartbeats 1000000 in
theorem aligns_bad (v E : Int) (w : World) (hE : E = 14) (HC : Hid (szRes v = (0, E))) (HA : Hid (alRes v = ([], E))) :
    Calls Try.prog 6 #[.int .i64 v] w fun e w' => e = .returned (.bool true) ∧ Ext w w' := by
  subst hE
  go_enter Try.func6, Try.ntmps6
  go_wp2_with fail
  refine (size_any _ _).mono ?_
  rw [HC.out]
  rintro e w' ⟨rfl, rfl⟩
  simp only [two]
  go_wp2_with fail
  refine (aligns_any _ _).mono ?_
  rw [HA.out]
  intro e w1 hret
  obtain ⟨b1, c1, rfl, hr1, _, _, _, hx1⟩ := hret.ints
  clear hret
  go_wp2_with fail
  refine (alive_any _).mono ?_
  rintro e w6 ⟨rfl, hx6⟩
  go_wp2_with fail
  go_ret
  exact ⟨rfl, hx1.trans hx6⟩

set_option maxRecDepth 20000 in
set_option maxHeartbeats 1000000 in
theorem aligns_one (w : World) :
    Calls Try.prog 6 #[.int .i64 1] w fun e w' => e = .returned (.bool true) ∧ Ext w w' := by
  have HC : Hid (szRes 1 = (21, 0)) := ex_size
  have HA : Hid (alRes 1 = ([], 0)) := by show alRes 1 = ([], 0); decide +kernel
  go_enter Try.func6, Try.ntmps6
  go_wp2_with fail
  refine (size_any _ _).mono ?_
  rw [HC.out]
  rintro e w' ⟨rfl, rfl⟩
  simp only [two]
  go_wp2_with fail
  refine (aligns_any _ _).mono ?_
  rw [HA.out]
  intro e w1 hret
  obtain ⟨b1, c1, rfl, hr1, _, _, _, hx1⟩ := hret.ints
  clear hret
  go_wp2_with fail
  refine (alive_any _).mono ?_
  rintro e w6 ⟨rfl, hx6⟩
  go_wp2_with fail
  go_ret
  exact ⟨rfl, hx1.trans hx6⟩

set_option maxRecDepth 20000 in
set_option maxHeartbeats 1000000 in
theorem aligns_good (n : Nat) (w : World) (h1 : 2 ≤ n) (h2 : n ≤ 40) :
    Calls Try.prog 6 #[.int .i64 n] w fun e w' => e = .returned (.bool true) ∧ Ext w w' := by
  have HC := Lib.hid (szRes_1 (v := n) ⟨by omega, by omega⟩)
  have HA := Lib.hid (alRes_1 (v := n) ⟨by omega, by omega⟩)
  have hn1 : ((n : Int) == 1) = false := by rw [beq_eq_false_iff_ne]; omega
  obtain ⟨f1, f2, f3, f4⟩ := al_facts n h1 h2
  obtain ⟨L, hL⟩ : ∃ L, L = al n := ⟨_, rfl⟩
  rw [← hL] at HA f1 f2 f3 f4
  clear hL
  obtain ⟨m, hm⟩ : ∃ m, m = n / 7 := ⟨_, rfl⟩
  rw [← hm] at f1 f3 f4
  have hm1 : (n : Int) / 7 = (m : Int) := by omega
  have hm5 : m ≤ 5 := by omega
  have HF1 := Lib.hid f1
  have HF2 := Lib.hid f2
  have HF3 := Lib.hid f3
  have HF4 := Lib.hid f4
  clear hm f1 f2 f3 f4
  have hat : ∀ i, i < m + 2 → (ints L)[i]? = some (.int .i64 (L.getD i 0)) := by
    intro i hi
    rw [Go.Bs.ints_at L i (by rw [HF1.out]; exact hi), getD_at L i (by rw [HF1.out]; exact hi)]
  have HAT := Lib.hid hat
  clear hat
  go_enter Try.func6, Try.ntmps6
  go_wp2_with fail
  refine (size_any _ _).mono ?_
  rw [HC.out]
  rintro e w' ⟨rfl, rfl⟩
  simp only [two]
  go_wp2_with fail
  refine (aligns_any _ _).mono ?_
  rw [HA.out]
  intro e w1 hret
  obtain ⟨b1, c1, rfl, hr1, _, _, _, hx1⟩ := hret.ints
  clear hret
  rw [HF1.out]
  obtain ⟨len, hlen⟩ : ∃ len, len = m + 2 := ⟨_, rfl⟩
  rw [← hlen]
  have HLEN := Lib.hid hlen
  have hl1 : len ≤ m + 2 := by omega
  have hl2 : m + 2 ≤ len := by omega
  have hl3 : ((len : Int) != (m : Int) + 2) = false := by simp; omega
  clear hlen
  obtain ⟨a, rfl, hc0⟩ := hr1.at (HAT.out 0 (by omega))
  rw [HF2.out] at hc0
  have hc0' : w1.cell? a = some (.int .i64 6) := hc0
  obtain ⟨a', ha', hcl⟩ := hr1.at (HAT.out (m + 1) (by omega))
  cases ha'
  rw [HF3.out, show m + 1 = len - 1 by omega] at hcl
  have hq1 : ((len : Int) - 1).toNat = len - 1 := by omega
  have hq2 : (0 : Int) ≤ (len : Int) - 1 := by omega
  have hq3 : (17 + 4 * (n : Int) - 7) = 4 * (n : Int) + 10 := by omega
  have hq4 : (4 * (n : Int) + 10 != 17 + 4 * (n : Int) - 7) = false := by simp; omega
  clear hc0
  go_wp2_with fail
  clear hc0' hcl hq3 hq4
  go_loopw [7, 8, 9] (fun i _ _ wr => ∃ k : Nat, 1 ≤ k ∧ k ≤ len ∧ i = .int .i64 k ∧ Ext w1 wr) (fun i _ _ _ => len - (intOf i).toNat)
  case atStart => exact ⟨1, by omega, by omega, rfl, Ext.refl _⟩
  case round =>
    obtain ⟨k, hk1, hk, rfl, hext⟩ := hrel
    by_cases hlt : k < len
    · replace hr1 := hr1.ext hext
      obtain ⟨a', ha', hca⟩ := hr1.at (HAT.out k (by omega))
      cases ha'
      obtain ⟨a', ha', hcb⟩ := hr1.at (HAT.out (k - 1) (by omega))
      cases ha'
      obtain ⟨a', ha', hcc⟩ := hr1.at (HAT.out (m + 1) (by omega))
      cases ha'
      obtain ⟨a', ha', hcd⟩ := hr1.at (HAT.out m (by omega))
      cases ha'
      rw [show m + 1 = len - 1 by omega] at hcc
      obtain ⟨hbk, hf⟩ := HF4.out k (by omega)
      obtain ⟨hg1, hg2, hg3, hg4⟩ := hf hk1
      have hbk1 := (HF4.out (k - 1) (by omega)).1
      have hbm := (HF4.out m (by omega)).1
      have hbm1 := (HF4.out (m + 1) (by omega)).1
      rw [show m + 1 = len - 1 by omega] at hbm1 hg4
      have hmm : m = len - 2 := by omega
      rw [hmm] at hcd hbm hg4
      clear hmm
      generalize L.getD k 0 = x at *
      generalize L.getD (k - 1) 0 = y at *
      generalize L.getD (len - 1) 0 = z at *
      generalize L.getD (len - 2) 0 = u at *
      have hr1' := Lib.hid hr1
      clear hr1
      have t1 : ((x - y) % 2 != 0) = false := by simp; omega
      have s1 : IntKind.i64.wrap ((k : Int) - 1) = (k : Int) - 1 := IntWalk.i64_in _ (by omega)
      have s2 : ((k : Int) - 1).toNat = k - 1 := by omega
      have s3 : (0 : Int) ≤ (k : Int) - 1 := by omega
      have s4 : IntKind.i64.wrap ((len : Int) - 1) = (len : Int) - 1 := IntWalk.i64_in _ (by omega)
      have s5 : IntKind.i64.wrap ((len : Int) - 2) = (len : Int) - 2 := IntWalk.i64_in _ (by omega)
      have s6 : ((len : Int) - 2).toNat = len - 2 := by omega
      have s7 : (0 : Int) ≤ (len : Int) - 2 := by omega
      have s8 : IntKind.i64.wrap (x - y) = x - y := IntWalk.i64_in _ (by omega)
      have s9 : IntKind.i64.wrap (z - u) = z - u := IntWalk.i64_in _ (by omega)
      have s10 : (k : Int) - 1 < (len : Int) := by omega
      have s11 : (len : Int) - 1 < (len : Int) := by omega
      have s12 : (len : Int) - 2 < (len : Int) := by omega
      have t5 : k = 1 ∨ (1 < k ∧ ((x - y) != (z - u)) = false) := by
        rcases hg4 with h | h
        · exact Or.inl h
        · by_cases h' : k = 1
          · exact Or.inl h'
          · exact Or.inr ⟨by omega, by simp [h]⟩
      rcases t5 with t5 | ⟨t5, t6⟩
      · have t7 : ¬ 1 < k := by omega
        have t8 : decide (1 < k) = false := by simp; omega
        clear hg4 t5
        go_wp2_with fail
        go_quiet (fail)
        go_wp2_with fail
        go_quiet (fail)
        go_wp2_with fail
        go_roundw
        case rel => exact ⟨k + 1, by omega, by omega, int_eq (by omega), hext.drewN _⟩
        case measure => simp [intOf]; omega
      · clear hg4
        go_wp2_with fail
        go_quiet (fail)
        go_wp2_with fail
        go_quiet (fail)
        go_wp2_with fail
        go_roundw
        case rel => exact ⟨k + 1, by omega, by omega, int_eq (by omega), hext.drewN _⟩
        case measure => simp [intOf]; omega
    · go_wp2_with fail
      refine (alive_any _).mono ?_
      rintro e w6 ⟨rfl, hx6⟩
      go_wp2_with fail
      go_ret
      exact ⟨rfl, hx1.trans (hext.trans hx6)⟩

theorem qrversionAligns_walk (v : Int) (w : World) (_ : -9223372036854775808 ≤ v ∧ v ≤ 9223372036854775807) :
    Calls Try.prog 6 #[.int .i64 v] w fun e w' => e = .returned (.bool true) ∧ Ext w w' := by
  by_cases hv : inV v
  · obtain ⟨n, rfl, h1, h2⟩ := inV_nat hv
    by_cases h : n = 1
    · subst h; exact aligns_one w
    · exact aligns_good n w (by omega) h2
  · exact aligns_bad v 14 w rfl (szRes_2 hv) (alRes_2 hv)

set_option maxRecDepth 100000 in
theorem qrversionAligns_lifted (os : Os) (started : os.Started) (H : Type) (enc : TypeId × Value → H) :
    ReturnsInHanded {} Try.checked os 6 .any (Rows.qrversionAlignsSpec.pre6 enc Try.prog Try.f6 Rows.qrversionAlignsRow.domain false) (Rows.qrversionAlignsSpec.post enc Try.prog Try.f6 false true false false) := by
  refine returnsInHanded_of_change (C := Try.checked) Try.own started (by kernel_rfl) Try.func6
    (ChangeSpec.witness6 (enc := enc) (C := Try.checked) false ⟨#[], #[.int .i64 0], []⟩ 8 (by kernel_rfl) (by kernel_rfl) (by kernel_rfl) (by kernel_rfl)) ?_
  intro W base args ds gs before hval0 hW _ _
  have hval : ∀ (j : Nat) t v, Try.f6.params[j]? = some t → args[j]? = some v → Value.okWide Try.prog W .any base t v := hval0
  have hW' := hW
  obtain ⟨p, q, hA0, hV, rfl, _, _⟩ := hW
  have hA : DataW.TrodAll enc Try.prog W 0 (fun _ => true) true Try.f6.params.toList args.toList ds p := hA0
  rw [Try.params6] at hA hval
  obtain ⟨rfl, rfl⟩ := trodVars_none hV
  clear hA0 hval0
  simp only [List.append_nil] at hW'
  have hlt : ∀ x ∈ p, x.block < W.heap.size := fun x hx => by simpa using hW'.lt x hx
  have hstay : ∀ W', Below W.heap.size W W' → _ := fun W' hb => args_stay (enc := enc) Try.laidOut hb _ _ _ _ (by kernel_rfl) hA hlt
  obtain ⟨v0, d0, rfl, rfl, h0⟩ := trodAll_one hA
  obtain ⟨x0, rfl, rfl, rfl, wx0⟩ := open_int Try.underlying3 (hval 0 3 v0 rfl rfl) h0
  refine (qrversionAligns_walk x0 W (wf_i64_bd wx0)).mono fun e W' ⟨he, hb⟩ => ?_
  subst he
  exact ⟨_, rfl, _, _, _, [], _, [], hW', trodAll_mk1 (shut_bool Try.underlying4 _), hstay W' hb, rfl, hb.frame _, fun h => by cases h⟩

theorem qrversionAligns_holds : Rows.QrversionAlignsSaid :=
  OpenClaim.holds_of_wide 6 Try.f6 rfl rfl rfl rfl rfl rfl rfl ⟨rfl, rfl, rfl, rfl, rfl⟩ rfl rfl rfl rfl rfl (by kernel_rfl) Try.func6 (by kernel_rfl)
    (of_decide_eq_true (by kernel_rfl)) (by unfold Func.isWrapper; first | (rw [if_pos (by decide +kernel)]; kernel_rfl) | (rw [if_neg (by decide +kernel)]; exact ⟨rfl, rfl⟩))
    (fun os started H enc _ => qrversionAligns_lifted os started H enc)


end Go.Proofs.Ytnmmpgjcikhnhaa
