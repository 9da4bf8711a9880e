/-
  For every input ModesLimits returns true, and each argument reads afterwards as it read before (Rows.ModesLimitsSaid).
  No condition.
-/
import Derived.Test.YthebfpolijajgaaModeBase
import Derived.Test.YthebfpolijajgaaModeH
namespace Go.Proofs.Ythebfpolijajgaa
open Go.RowKit Go.Bs Go.ChangeShapes Go.WideShapes Go.ChangeAt Go.Joins Go.Mode

theorem md_succ (j : Nat) (h : j < 2) : md j * 2 = md (j + 1) := by
  have : j = 0 ∨ j = 1 := by omega
  rcases this with rfl | rfl <;> rfl
theorem md_bd (j : Nat) : 1 ≤ md j ∧ md j ≤ 4 := by unfold md; split <;> (try split) <;> omega
theorem datA_nil (B : Nat) (w : World) (g : Nat) (v : Value) : DatA B w g v (.slice none 0 0) [] := ⟨none, 0, rfl, Row.nil _ _, Nat.le_refl _, by decide, fun _ => rfl, fun a ha => by cases ha⟩
theorem segs_own {w' : World} {B g : Nat} {e : TypeId} {v : Value} {cells : List Value} {l : List SegD} (h : w'.ownsRow B e 2 v l.length cells) (hs : SegCells B w' g v cells l) : ∃ ao cap, v = .slice ao l.length cap ∧ Segs w' ao l ∧ l.length ≤ cap ∧ cap ≤ 9223372036854775807 := by
  rcases h.2 with ⟨rfl, hn⟩ | ⟨g', cap, cur, rfl, hb, hg, hnc, hcm, hcs, htake⟩
  · obtain rfl := List.eq_nil_of_length_eq_zero hn
    exact ⟨none, 0, rfl, Segs.nil _ _, Nat.le_refl _, by decide⟩
  · refine ⟨some ⟨g', 0, none⟩, cap, rfl, ?_, hnc, by unfold maxLen at hcm; omega⟩
    intro i p hi
    obtain ⟨u, h1, h2, ao, cp, h3, h4, h5, h6, h7, h8⟩ := hs i p hi
    have hi' : i < l.length := (List.getElem?_eq_some_iff.1 hi).1
    refine ⟨g', 0, u, rfl, ?_, ?_, ao, cp, h3, h4, h5, h6, h7⟩
    · rw [Nat.zero_add, h.cellAt (i * 2) (by omega)]; exact h1
    · rw [Nat.zero_add, h.cellAt (i * 2 + 1) (by omega)]; exact h2

set_option maxRecDepth 20000 in
set_option maxHeartbeats 2000000 in
theorem modesLimits_walk (x y z : Int) (b : Bool) (w : World) (hx : 0 ≤ x ∧ x ≤ 255) (hy : 0 ≤ y ∧ y ≤ 255) (hz : 0 ≤ z ∧ z ≤ 255) :
    Calls Try.prog 4 #[.int .u8 x, .int .u8 y, .int .u8 z, .bool b] w fun e w' => e = .returned (.bool true) ∧ Ext w w' := by
  obtain ⟨q, hq, hq2, hq3⟩ : ∃ k : Nat, x % 3 = k ∧ x.tmod 3 = k ∧ k ≤ 2 := ⟨(x % 3).toNat, by omega, by rw [Int.tmod_eq_emod_of_nonneg hx.1]; omega, by omega⟩
  obtain ⟨k, hk, hk2, hk3⟩ : ∃ k : Nat, y % 3 = k ∧ y.tmod 3 = k ∧ k ≤ 2 := ⟨(y % 3).toNat, by omega, by rw [Int.tmod_eq_emod_of_nonneg hy.1]; omega, by omega⟩
  obtain ⟨r, hr, hr2, hr3⟩ : ∃ k : Nat, z % 5 = k ∧ z.tmod 5 = k ∧ k ≤ 4 := ⟨(z % 5).toNat, by omega, by rw [Int.tmod_eq_emod_of_nonneg hz.1]; omega, by omega⟩
  go_enter Try.func4, Try.ntmps4
  go_wp2_with fail
  go_loop [9, 10] (fun m i => ∃ j : Nat, j ≤ q ∧ i = .int .i64 j ∧ m = .int .i64 (md j)) (fun _ i => q - (intOf i).toNat)
  case atStart => exact ⟨0, Nat.zero_le _, rfl, rfl⟩
  case round =>
    obtain ⟨j, hj, rfl, rfl⟩ := hrel
    by_cases hlt : j < q
    · have hm := md_bd j
      have hs := md_succ j (by omega)
      obtain ⟨M, hM⟩ : ∃ M, M = md j := ⟨_, rfl⟩
      obtain ⟨M', hM'⟩ : ∃ M', M' = md (j + 1) := ⟨_, rfl⟩
      rw [← hM, ← hM'] at hs
      rw [← hM] at hm ⊢
      have HM' := Lib.hid hM'
      clear hM hM'
      go_wp2_with fail
      go_round
      case rel => exact ⟨j + 1, by omega, int_eq (by omega), by rw [HM'.out]⟩
      case measure => simp [intOf]; omega
    · obtain rfl : j = q := by omega
      have hm := md_bd j
      have HOK := Lib.hid (md_ok j)
      obtain ⟨m, hM⟩ : ∃ m, m = md j := ⟨_, rfl⟩
      rw [← hM] at hm HOK ⊢
      clear hM hlt
      cases b
      · have hcb := cnt_le m k hk3
        have hcp := cnt_pos m k
        have HC : Hid (ctRes m k = (((cntB m k : Nat) : Int), 0)) := by
          refine Lib.hid ?_
          unfold ctRes
          rw [if_neg (by rw [HOK.out]; simp; omega)]
          simp
        obtain ⟨B, hB⟩ : ∃ B, B = cntB m k := ⟨_, rfl⟩
        rw [← hB] at hcb hcp HC
        clear hB
        obtain ⟨p, hp⟩ : ∃ p, p = 2 ^ B := ⟨_, rfl⟩
        have hw2 : IntKind.i64.wrap ((2 : Int) ^ B) = (p : Int) := by
          rw [hp, IntWalk.i64_in _ (by have := pow_le61 B (by omega); have : (0 : Int) < 2 ^ B := Int.pow_pos (by decide); omega)]
          rw [Int.natCast_pow]
          rfl
        have hpb : 256 ≤ p ∧ p ≤ 65536 := by
          rw [hp]
          exact ⟨Nat.pow_le_pow_right (n := 2) (by decide) hcp, Nat.pow_le_pow_right (n := 2) (by decide) hcb⟩
        clear hp
        obtain ⟨N, hN⟩ : ∃ N : Nat, N = p - 3 + r := ⟨_, rfl⟩
        have hNi : (p : Int) - 3 + (r : Int) = (N : Int) := by omega
        have hNb : N ≤ 65540 := by omega
        clear hN
        go_wp2_with fail
        refine (rcountBits_any _ _ _).mono ?_
        rw [HC.out]
        rintro e w1 ⟨rfl, rfl⟩
        simp only [two]
        go_wp2_with fail
        refine (repeated_any 55 N w (by omega)).mono ?_
        intro e w1 hret
        obtain ⟨b1, c1, rfl, h1, hc1, hm1, hn1, hx1⟩ := hret.byts
        clear hret
        rw [List.length_replicate] at hc1 ⊢
        have HR1 := Lib.hid h1
        have HN1 := Lib.hid hn1
        have HX1 := Lib.hid hx1
        clear h1 hn1 hx1
        go_wp2_with fail
        have HSG : Hid (Segs (w1.alloc (.cells #[.int .i64 m, .slice b1 N c1] 33)) (some ⟨w1.heap.size, 0, none⟩) [(m, List.replicate N 55)]) := by
          intro i s hi
          match i, hi with
          | 0, hi =>
            simp at hi
            subst hi
            have hn := heap_alloc_new w1 (.cells #[.int .i64 m, .slice b1 N c1] 33)
            refine ⟨w1.heap.size, 0, .slice b1 N c1, rfl, ?_, ?_, b1, c1, by simp, HR1.out.ext (Ext.alloc _ _), by simpa using hc1, hm1, HN1.out⟩
            · rw [cell_of_row _ _ _ _ _ _ hn]; rfl
            · rw [cell_of_row _ _ _ _ _ _ hn]; rfl
        have HX2 := Lib.hid (HX1.out.trans (Ext.alloc w1 (.cells #[.int .i64 m, .slice b1 N c1] 33)))
        skip
        refine (bits_any (some ⟨w1.heap.size, 0, none⟩) 1 1 [(m, List.replicate N 55)] k _ rfl (by decide) (by decide) HSG.out).mono ?_
        obtain ⟨A, hA⟩ : ∃ r, r = bitsRes [(m, List.replicate N 55)] k := ⟨_, rfl⟩
        rw [← hA]
        have HA := Lib.hid hA
        clear hA
        obtain ⟨T, E⟩ := A
        rintro e w5 ⟨rfl, hx5⟩
        simp only [two]
        have HX5 := Lib.hid hx5
        clear hx5
        go_wp2_with fail
        refine (rbits_any (some ⟨w1.heap.size, 0, none⟩) 1 1 [(m, List.replicate N 55)] k w5 rfl (by decide) (by decide) ((HSG.out).ext HX5.out)).mono ?_
        rw [← HA.out]
        rintro e w6 ⟨rfl, hx6⟩
        simp only [two]
        have HX6 := Lib.hid ((HX2.out).trans (HX5.out.trans hx6))
        clear hx6
        have e1 : (T == T) = true := by simp
        have e2 : (E == E) = true := by simp
        go_wp2_with fail
        refine (example_any _).mono ?_
        rintro e w7 ⟨rfl, hx7⟩
        go_wp2_with fail
        go_ret
        exact ⟨rfl, HX6.out.trans hx7⟩
      · go_wp2_with fail
        go_loopw [12, 13] (fun v i wr => ∃ (j : Nat) (cells : List Value), j ≤ 4094 + r ∧ i = .int .i64 j ∧ wr.ownsRow w.heap.size 33 2 v j cells ∧ Hid (SegCells w.heap.size wr 0 v cells (List.replicate j (m, []))) ∧ Hid (Ext w wr)) (fun _ i _ => 4094 + r - (intOf i).toNat)
        case atStart => exact ⟨0, [], Nat.zero_le _, rfl, World.ownsRow_nil _ _ _ _, SegCells.nil _ _ _ _, Ext.refl _⟩
        case round =>
          obtain ⟨j, cells, hj, rfl, hown, HSC, HX⟩ := hrel
          have hB := HX.out.size
          by_cases hlt : j < 4094 + r
          · go_wp2_with (at_builtin; refine wpList_pushK rfl _ _ 25 rfl w.heap.size 33 (.agg #[.int .i64 0, .slice none 0 0]) 2 32 Try.infoSeg rfl (by decide) Try.underlying25 _ rfl _ _ hown [.int .i64 m, .slice none 0 0] rfl rfl (by simp [Value.oneCell']) (by omega) (by omega) hB ?_; intro s4 w4 hown4 hk4)
            have HSC4 : Hid (SegCells w.heap.size w4 0 s4 (cells ++ [.int .i64 m, .slice none 0 0]) (List.replicate (j + 1) (m, []))) := by
              refine Lib.hid ?_
              rw [List.replicate_succ']
              have hcl : cells.length = (List.replicate j ((m, []) : SegD)).length * 2 := by rw [List.length_replicate]; exact hown.1
              exact (HSC.out.snoc (m := m) hcl (datA_nil _ _ _ _)).keep (KeepG.ofKeep hk4)
            refine ⟨⟨j + 1, _, by omega, by rw [Int.natCast_succ], hown4, HSC4, Lib.hid (Below.trans HX.out (hk4.below hB (fun k' h' => (hown.lt k' h').1)))⟩, by simp [intOf]; omega⟩
          · have hge : 4094 + r ≤ j := by omega
            obtain ⟨lao, lcap, rfl, hsg, hlc, hlm⟩ := segs_own (l := List.replicate j (m, [])) (by rw [List.length_replicate]; exact hown) HSC.out
            have HSG := Lib.hid hsg
            have HX2 := Lib.hid HX.out
            rw [List.length_replicate] at hlc ⊢
            clear hsg hown HSC
            go_wp2_with fail
            skip
            refine (bits_any lao j lcap (List.replicate j (m, [])) k wr (List.length_replicate ..) hlc hlm HSG.out).mono ?_
            obtain ⟨A, hA⟩ : ∃ r, r = bitsRes (List.replicate j (m, [])) k := ⟨_, rfl⟩
            rw [← hA]
            have HA := Lib.hid hA
            clear hA
            obtain ⟨T, E⟩ := A
            rintro e w5 ⟨rfl, hx5⟩
            simp only [two]
            have HX5 := Lib.hid hx5
            clear hx5
            go_wp2_with fail
            refine (rbits_any lao j lcap (List.replicate j (m, [])) k w5 (List.length_replicate ..) hlc hlm ((HSG.out).ext HX5.out)).mono ?_
            rw [← HA.out]
            rintro e w6 ⟨rfl, hx6⟩
            simp only [two]
            have HX6 := Lib.hid ((HX2.out).trans (HX5.out.trans hx6))
            clear hx6
            have e1 : (T == T) = true := by simp
            have e2 : (E == E) = true := by simp
            go_wp2_with fail
            refine (example_any _).mono ?_
            rintro e w7 ⟨rfl, hx7⟩
            go_wp2_with fail
            go_ret
            exact ⟨rfl, HX6.out.trans hx7⟩

set_option maxRecDepth 100000 in
theorem modesLimits_lifted (os : Os) (started : os.Started) (H : Type) (enc : TypeId × Value → H) :
    ReturnsInHanded {} Try.checked os 4 .any (Rows.modesLimitsSpec.pre6 enc Try.prog Try.f4 Rows.modesLimitsRow.domain false) (Rows.modesLimitsSpec.post enc Try.prog Try.f4 false true false false) := by
  refine returnsInHanded_of_change (C := Try.checked) Try.own started (by kernel_rfl) Try.func4
    (ChangeSpec.witness6 (enc := enc) (C := Try.checked) false ⟨#[], #[.int .u8 0, .int .u8 0, .int .u8 0, .bool false], []⟩ 8 (by kernel_rfl) (by kernel_rfl) (by kernel_rfl) (by kernel_rfl)) ?_
  intro W base args ds gs before hval0 hW _ _
  have hval : ∀ (j : Nat) t v, Try.f4.params[j]? = some t → args[j]? = some v → Value.okWide Try.prog W .any base t v := hval0
  have hW' := hW
  obtain ⟨p, q, hA0, hV, rfl, _, _⟩ := hW
  have hA : DataW.TrodAll enc Try.prog W 0 (fun _ => true) true Try.f4.params.toList args.toList ds p := hA0
  rw [Try.params4] at hA hval
  obtain ⟨rfl, rfl⟩ := trodVars_none hV
  clear hA0 hval0
  simp only [List.append_nil] at hW'
  have hlt : ∀ x ∈ p, x.block < W.heap.size := fun x hx => by simpa using hW'.lt x hx
  have hstay : ∀ W', Below W.heap.size W W' → _ := fun W' hb => args_stay (enc := enc) Try.laidOut hb _ _ _ _ (by kernel_rfl) hA hlt
  obtain ⟨v0, v1, v2, v3, d0, d1, d2, d3, p0, p1, p2, p3, rfl, rfl, rfl, h0, h1, h2, h3⟩ := trodAll_four hA
  obtain ⟨x0, rfl, rfl, rfl, wx0⟩ := open_int Try.underlying5 (hval 0 5 v0 rfl rfl) h0
  obtain ⟨x1, rfl, rfl, rfl, wx1⟩ := open_int Try.underlying5 (hval 1 5 v1 rfl rfl) h1
  obtain ⟨x2, rfl, rfl, rfl, wx2⟩ := open_int Try.underlying5 (hval 2 5 v2 rfl rfl) h2
  obtain ⟨x3, rfl, rfl, rfl⟩ := open_bool Try.underlying4 (hval 3 4 v3 rfl rfl) h3
  refine (modesLimits_walk x0 x1 x2 x3 W (wf_u8_bd wx0) (wf_u8_bd wx1) (wf_u8_bd wx2)).mono fun e W' ⟨he, hb⟩ => ?_
  subst he
  exact ⟨_, rfl, _, _, _, [], _, [], hW', trodAll_mk1 (shut_bool Try.underlying4 _), hstay W' hb, rfl, hb.frame _, fun h => by cases h⟩

theorem modesLimits_holds : Rows.ModesLimitsSaid :=
  OpenClaim.holds_of_wide 4 Try.f4 rfl rfl rfl rfl rfl rfl rfl ⟨rfl, rfl, rfl, rfl, rfl⟩ rfl rfl rfl rfl rfl (by kernel_rfl) Try.func4 (by kernel_rfl)
    (of_decide_eq_true (by kernel_rfl)) (by unfold Func.isWrapper; first | (rw [if_pos (by decide +kernel)]; kernel_rfl) | (rw [if_neg (by decide +kernel)]; exact ⟨rfl, rfl⟩))
    (fun os started H enc _ => modesLimits_lifted os started H enc)


end Go.Proofs.Ythebfpolijajgaa
