/-
  For every input ModesRoundTrip returns true, and each argument reads afterwards as it read before (Rows.ModesRoundTripSaid).
  No condition.
-/
import Derived.Test.YthebfpolijajgaaModeBase
import Derived.Test.YthebfpolijajgaaMinPlain
namespace Go.Proofs.Ythebfpolijajgaa
open Go.RowKit Go.Bs Go.ChangeShapes Go.WideShapes Go.ChangeAt Go.Joins Go.Mode

theorem total_small (k : Nat) (hk : k ≤ 2) (l : List SegD) (h : smallB l = true) : total k l ≤ 64000 := by
  unfold smallB at h
  rw [Bool.and_eq_true, decide_eq_true_iff, List.all_eq_true] at h
  have key : ∀ (m : List SegD), (∀ q ∈ m, decide (q.2.length ≤ 150) = true) → total k m ≤ 1600 * m.length := by
    intro m
    induction m with
    | nil => intro _; simp [total]
    | cons q m ih =>
      intro hm
      have h1 := ih (fun x hx => hm x (List.mem_cons_of_mem _ hx))
      have h2 := of_decide_eq_true (hm q (by simp))
      have h3 := cnt_le q.1 k hk
      have h4 := dsize_mono q.1 q.2.length 150 h2
      have h5 : dsize q.1 150 ≤ 1200 := by unfold dsize; split <;> (try split) <;> omega
      rw [total_cons, List.length_cons]
      unfold segB
      omega
  have := key l h.2
  omega

theorem num_zeros : ∀ n : Nat, num (List.replicate n false) = 0
  | 0 => rfl
  | n + 1 => by
    rw [List.replicate_succ', num_snoc, num_zeros n]
    rfl
theorem endOk_zeros (n : Nat) : EndOk (List.replicate n false) := by
  by_cases h : n < 4
  · exact Or.inl ⟨by simpa using h, num_zeros n⟩
  · refine Or.inr ⟨by simp; omega, ?_⟩
    rw [List.take_replicate, num_zeros]
theorem endOk_term (r : List Bool) : EndOk (List.replicate 4 false ++ r) := by
  refine Or.inr ⟨by simp, ?_⟩
  rw [List.take_append_of_le_length (by simp), List.take_replicate, num_zeros]
theorem dec_back (k : Nat) (hk : k ≤ 2) (l : List SegD) (r : List Bool) (h4 : l.length ≤ 4096) (h : ∀ q ∈ l, SegOk k q) (hr : EndOk r) (hb : total k l + r.length ≤ 1048576) : decRes (l.flatMap (encS k) ++ r) k = (l, 0) := by
  unfold decRes
  rw [if_neg (by omega), if_neg (by rw [List.length_append, length_encs k l (fun q hq => (h q hq).1)]; omega)]
  have := decL_enc k r hr l [] h (by simpa using h4)
  simpa using this

set_option maxRecDepth 20000 in
set_option maxHeartbeats 2000000 in
theorem modesRoundTrip_walk (ao : Option Addr) (len cap : Nat) (l : List SegD) (x z : Int) (bo : Option Addr) (lb cb : Nat) (ys : List Bool) (w : World) (hl : l.length = len) (hc : len ≤ cap) (hm : cap ≤ 9223372036854775807) (hr : Segs w ao l) (_ : ∀ q ∈ l, -9223372036854775808 ≤ q.1 ∧ q.1 ≤ 9223372036854775807) (hx : 0 ≤ x ∧ x ≤ 255) (hz : 0 ≤ z ∧ z ≤ 65535)
    (hl2 : ys.length = lb) (_ : lb ≤ cb) (_ : cb ≤ 9223372036854775807) (hn2 : bo = none → cb = 0) (hr2 : Row w bo (bools ys)) :
    Calls Try.prog 7 #[.slice ao len cap, .int .u8 x, .int .u16 z, .slice bo lb cb] w fun e w' => e = .returned (.bool true) ∧ Ext w w' := by
  subst hl
  obtain ⟨k, hk, hk2, hk3⟩ : ∃ k : Nat, x % 3 = k ∧ x.tmod 3 = k ∧ k ≤ 2 := ⟨(x % 3).toNat, by omega, by rw [Int.tmod_eq_emod_of_nonneg hx.1]; omega, by omega⟩
  obtain ⟨nz, hnz, hnz2, hnz3⟩ : ∃ n : Nat, z % 300 = n ∧ z.tmod 300 = n ∧ n < 300 := ⟨(z % 300).toNat, by omega, by rw [Int.tmod_eq_emod_of_nonneg hz.1]; omega, by omega⟩
  have HR := Lib.hid hr
  have HL2 := Lib.hid hl2
  have HN2 := Lib.hid hn2
  have HR2 := Lib.hid hr2
  clear hr hl2 hn2 hr2
  obtain ⟨n, hn⟩ : ∃ n, n = l.length := ⟨_, rfl⟩
  have HSM := fun (W : World) (h : Ext w W) => Lib.hid (small_any ao cap l W (by omega) (HR.out.ext h))
  have HSA := fun (bo : Option Addr) (cb : Nat) (W : World) (h : Ext w W) (hs : Segs W bo l) => Lib.hid (ssame_any bo ao cb cap l W (by omega) hs (HR.out.ext h))
  rw [← hn] at HSM HSA hc ⊢
  have HN := Lib.hid hn
  clear hn
  obtain ⟨A, hA⟩ : ∃ r, r = bitsRes l k := ⟨_, rfl⟩
  have HA := Lib.hid hA
  clear hA
  obtain ⟨T, E⟩ := A
  have HBI := Lib.hid (bits_any ao n cap l k w HN.out.symm hc hm HR.out)
  rw [← HA.out] at HBI
  simp only [two] at HBI
  cases hs : smallB l
  · simp only [hs] at HSM
    clear hs
    go_enter Try.func7, Try.ntmps7
    go_wp2_with fail
    refine HBI.out.mono ?_
    rintro e w1 ⟨rfl, hx1⟩
    go_wp2_with fail
    refine (HSM _ hx1).out.mono ?_
    rintro e w2 ⟨rfl, rfl⟩
    go_wp2_with fail
    refine (example_any _).mono ?_
    rintro e w6 ⟨rfl, hx6⟩
    go_wp2_with fail
    go_ret
    exact ⟨rfl, (hx1).trans hx6⟩
  · simp only [hs] at HSM
    have HTS := Lib.hid (total_small k hk3 l hs)
    clear hs
    by_cases hE : E = 0
    case neg =>
      have hE' : (E != 0) = true := by simp [hE]
      have HE := Lib.hid hE
      clear hE
      go_enter Try.func7, Try.ntmps7
      go_wp2_with fail
      refine HBI.out.mono ?_
      rintro e w1 ⟨rfl, hx1⟩
      go_wp2_with fail
      refine (HSM _ hx1).out.mono ?_
      rintro e w2 ⟨rfl, rfl⟩
      go_wp2_with fail
      refine (example_any _).mono ?_
      rintro e w6 ⟨rfl, hx6⟩
      go_wp2_with fail
      go_ret
      exact ⟨rfl, (hx1).trans hx6⟩
    case pos =>
      subst hE
      by_cases hbig : 300 < lb
      · go_enter Try.func7, Try.ntmps7
        go_wp2_with fail
        refine HBI.out.mono ?_
        rintro e w1 ⟨rfl, hx1⟩
        go_wp2_with fail
        refine (HSM _ hx1).out.mono ?_
        rintro e w2 ⟨rfl, rfl⟩
        go_wp2_with fail
        refine (example_any _).mono ?_
        rintro e w6 ⟨rfl, hx6⟩
        go_wp2_with fail
        go_ret
        exact ⟨rfl, (hx1).trans hx6⟩
      · obtain ⟨k', hkk, _, h4, hok, htot, hT⟩ := bits_from HA.out.symm
        have hkk : k = k' := by omega
        subst hkk
        obtain ⟨zs, hzs⟩ : ∃ zs, zs = l.flatMap (encS k) := ⟨_, rfl⟩
        have hzl : zs.length = total k l := by rw [hzs]; exact length_encs k l (fun q hq => (hok q hq).1)
        have HENC : Hid (encRes l k = (zs, 0)) := by
          refine Lib.hid ?_
          unfold encRes
          rw [← HA.out, if_pos rfl, hzs]
          simp
        have hzb : zs.length ≤ 64000 := by rw [hzl]; exact HTS.out
        have HD1 : Hid (decRes (zs ++ List.replicate nz false) k = (l, 0)) := by
          refine Lib.hid ?_
          rw [hzs]
          exact dec_back k hk3 l _ h4 hok (endOk_zeros nz) (by rw [← hzl]; simp; omega)
        have HD2 : Hid (decRes (zs ++ (List.replicate 4 false ++ ys)) k = (l, 0)) := by
          refine Lib.hid ?_
          rw [hzs]
          exact dec_back k hk3 l _ h4 hok (endOk_term ys) (by rw [← hzl, List.length_append, HL2.out]; simp; omega)
        rw [hT, ← hzl] at HBI
        clear hT hzl hzs htot hok HTS HA
        obtain ⟨zn, hzn⟩ : ∃ zn, zn = zs.length := ⟨_, rfl⟩
        rw [← hzn] at HBI hzb
        have HZN := Lib.hid hzn
        clear hzn
        go_enter Try.func7, Try.ntmps7
        go_wp2_with fail
        refine HBI.out.mono ?_
        rintro e w1 ⟨rfl, hx1⟩
        have HX1 := Lib.hid hx1
        clear hx1
        go_wp2_with fail
        refine (HSM _ HX1.out).out.mono ?_
        rintro e w2 ⟨rfl, rfl⟩
        go_wp2_with fail
        refine (encode_any ao n cap l k w1 HN.out.symm hc hm (HR.out.ext HX1.out)).mono ?_
        rw [HENC.out]
        intro e w2 hret
        obtain ⟨eo, ec, rfl, her, _, _, hen, hx2⟩ := hret.bools
        clear hret
        rw [← HZN.out]
        have HX2 := Lib.hid (HX1.out.trans hx2)
        have HER := Lib.hid her
        have HEN := Lib.hid hen
        clear hx2 her hen
        go_wp2_with ((with_reducible show wpList _ _ _ (⟨some 51, _, _, _, _, _⟩ :: _) _ _); refine wpList_app rfl _ _ 40 rfl w2.heap.size 4 (.bool false) 1 1 Try.infoBool rfl (by decide) Try.underlying40 _ rfl 0 [] (World.ownsRow_nil _ _ _ _) _ _ _ rfl (bools zs) HER.out (by rw [length_bools, ← HZN.out]; omega) HEN.out (bools_oneCell _) (by omega) (by omega) (Nat.le_refl _) ?_; intro s3 w3 hown3 hk3')
        have hx3 : Ext w2 w3 := hk3'.toExt rfl
        have hown3' : w3.ownsRow w2.heap.size 4 1 s3 (zn + 0) (bools (zs ++ List.replicate 0 false)) := by
          simpa using hown3
        have HX3 := Lib.hid hx3
        clear hown3 hk3' hx3
        go_loopw [14, 16] (fun v i wr => ∃ j : Nat, j ≤ nz ∧ i = .int .i64 j ∧ wr.ownsRow w2.heap.size 4 1 v (zn + j) (bools (zs ++ List.replicate j false)) ∧ Hid (Ext w2 wr)) (fun _ i _ => nz - (intOf i).toNat)
        case atStart => exact ⟨0, Nat.zero_le _, rfl, hown3', HX3⟩
        case round =>
          clear hown3' HX3
          obtain ⟨j, hj, rfl, hown, HXR⟩ := hrel
          have hB := HXR.out.size
          by_cases hlt : j < nz
          · go_wp2_with (at_builtin; refine wpList_pushK rfl _ _ 40 rfl w2.heap.size 4 (.bool false) 1 1 Try.infoBool rfl (by decide) Try.underlying40 _ rfl _ _ hown [.bool false] rfl rfl (by simp [Value.oneCell']) (by omega) (by omega) hB ?_; intro s4 w4 hown4 hk4)
            refine ⟨⟨j + 1, by omega, by rw [Int.natCast_succ], ?_, Lib.hid (Below.trans HXR.out (hk4.below hB (fun k' h' => (hown.lt k' h').1)))⟩, by simp [intOf]; omega⟩
            rw [List.replicate_succ', ← List.append_assoc, bools_append, ← Nat.add_assoc]
            exact hown4
          · obtain rfl : j = nz := by omega
            obtain ⟨wA, rfl⟩ : ∃ wA, wA = wr := ⟨_, rfl⟩
            obtain ⟨so, sc, rfl, hso, hsm, _, hsr⟩ := own_row hown
            have HSR := Lib.hid hsr
            have HSN := Lib.hid (own_nil' hown)
            have HXA := Lib.hid (HX2.out.trans HXR.out)
            have HERA := Lib.hid (HER.out.ext HXR.out)
            clear hsr hown
            go_wp2_with (first
              | ((with_reducible show wpList _ _ _ (⟨some 64, _, _, _, _, _⟩ :: _) _ _); refine wpList_app rfl _ _ 40 rfl wA.heap.size 4 (.bool false) 1 1 Try.infoBool rfl (by decide) Try.underlying40 _ rfl 0 [] (World.ownsRow_nil _ _ _ _) _ _ _ rfl (bools zs) HERA.out (by rw [length_bools, ← HZN.out]; omega) HEN.out (bools_oneCell _) (by omega) (by omega) (Nat.le_refl _) ?_; intro s5 w5 hown5 hk5)
              | ((with_reducible show wpList _ _ _ (⟨some 67, _, _, _, _, _⟩ :: _) _ _); refine wpList_app rfl _ _ 40 rfl wA.heap.size 4 (.bool false) 1 1 Try.infoBool rfl (by decide) Try.underlying40 _ rfl _ _ (own_extN hown5 (Ext.alloc _ (.cells #[.bool false, .bool false, .bool false, .bool false] 4))) _ _ _ rfl (bools (List.replicate 4 false)) (rowLit w5 [.bool false, .bool false, .bool false, .bool false] 4) (by simp [bools]) (fun h => by cases h) (bools_oneCell _) (by omega) (by omega) (Nat.le_trans (hk5.toExt rfl).size (Ext.alloc _ _).size) ?_; intro s6 w6 hown6 hk6; have hx6 : Ext wA w6 := Below.trans ((hk5.toExt rfl).trans (Ext.alloc _ _)) (hk6.below (Nat.le_trans (hk5.toExt rfl).size (Ext.alloc _ _).size) (fun k' h' => (hown5.lt k' h').1)))
              | ((with_reducible show wpList _ _ _ (⟨some 70, _, _, _, _, _⟩ :: _) _ _); refine wpList_app rfl _ _ 40 rfl wA.heap.size 4 (.bool false) 1 1 Try.infoBool rfl (by decide) Try.underlying40 _ rfl _ _ hown6 _ _ _ rfl (bools ys) (HR2.out.ext (HXA.out.trans hx6)) (by rw [length_bools, HL2.out]; omega) HN2.out (bools_oneCell _) (by omega) (by omega) hx6.size ?_; intro s7 w7 hown7 hk7))
            have hx7 : Ext wA w7 := Below.trans hx6 (hk7.below hx6.size (fun k' h' => (hown6.lt k' h').1))
            have hown8 : w7.ownsRow wA.heap.size 4 1 s7 (zn + 4 + lb) (bools (zs ++ (List.replicate 4 false ++ ys))) := by
              rw [← List.append_assoc, bools_append, bools_append]
              simpa using hown7
            obtain ⟨tao, tc, rfl, hto, htm, _, htr⟩ := own_row hown8
            have HTR := Lib.hid htr
            have HTN := Lib.hid (own_nil' hown8)
            have HSR7 := Lib.hid (HSR.out.ext hx7)
            have HX7 := Lib.hid (HXA.out.trans hx7)
            clear htr hown8 hown5 hown6 hown7 hk5 hk6 hk7 hx6 hx7 HSR HXA HERA
            unfold maxLen at hsm htm
            refine (decode_any so (zn + j) sc (zs ++ List.replicate j false) k w7 (by rw [List.length_append, ← HZN.out]; simp) (by omega) HSN.out HSR7.out).mono ?_
            rw [HD1.out]
            rintro e w8 ⟨ao8, cap8, rfl, hs8, hc8, hm8, hx8⟩
            simp only at hs8 hc8 ⊢
            have HS8 := Lib.hid hs8.segs
            have HX8 := Lib.hid (HX7.out.trans hx8)
            have HTR8 := Lib.hid (HTR.out.ext hx8)
            clear hs8 hx8
            rw [← HN.out]
            go_wp2_with fail
            refine (decode_any tao (zn + 4 + lb) tc (zs ++ (List.replicate 4 false ++ ys)) k w8 (by rw [List.length_append, List.length_append, ← HZN.out, HL2.out]; simp; omega) (by omega) HTN.out HTR8.out).mono ?_
            rw [HD2.out]
            rintro e w9 ⟨ao9, cap9, rfl, hs9, hc9, hm9, hx9⟩
            simp only at hs9 hc9 ⊢
            have HS9 := Lib.hid hs9.segs
            have HX9 := Lib.hid (HX8.out.trans hx9)
            have HS89 := Lib.hid (HS8.out.ext hx9)
            clear hs9 hx9
            rw [← HN.out]
            have e1 : ((zn : Int) == (zn : Int)) = true := by simp
            go_wp2_with fail
            refine (HSA ao8 cap8 w9 HX9.out HS89.out).out.mono ?_
            rintro e wa ⟨rfl, hxa⟩
            have HXa := Lib.hid (HX9.out.trans hxa)
            have HS9a := Lib.hid (HS9.out.ext hxa)
            clear hxa
            go_wp2_with fail
            refine (HSA ao9 cap9 wa HXa.out HS9a.out).out.mono ?_
            rintro e wb ⟨rfl, hxb⟩
            have HXb := Lib.hid (HXa.out.trans hxb)
            clear hxb
            go_wp2_with fail
            refine (example_any _).mono ?_
            rintro e w6 ⟨rfl, hx6⟩
            go_wp2_with fail
            go_ret
            exact ⟨rfl, (HXb.out).trans hx6⟩

set_option maxRecDepth 100000 in
theorem modesRoundTrip_lifted (os : Os) (started : os.Started) (H : Type) (enc : TypeId × Value → H) :
    ReturnsInHanded {} Try.checked os 7 .any (Rows.modesRoundTripSpec.pre6 enc Try.prog Try.f7 Rows.modesRoundTripRow.domain false) (Rows.modesRoundTripSpec.post enc Try.prog Try.f7 false true false false) := by
  refine returnsInHanded_of_change (C := Try.checked) Try.own started (by kernel_rfl) Try.func7
    (ChangeSpec.witness6 (enc := enc) (C := Try.checked) false ⟨#[], #[.slice none 0 0, .int .u8 0, .int .u16 0, .slice none 0 0], []⟩ 8 (by kernel_rfl) (by kernel_rfl) (by kernel_rfl) (by kernel_rfl)) ?_
  intro W base args ds gs before hval0 hW _ _
  have hval : ∀ (j : Nat) t v, Try.f7.params[j]? = some t → args[j]? = some v → Value.okWide Try.prog W .any base t v := hval0
  have hW' := hW
  obtain ⟨p, q, hA0, hV, rfl, _, _⟩ := hW
  have hA : DataW.TrodAll enc Try.prog W 0 (fun _ => true) true Try.f7.params.toList args.toList ds p := hA0
  rw [Try.params7] at hA hval
  obtain ⟨rfl, rfl⟩ := trodVars_none hV
  clear hA0 hval0
  simp only [List.append_nil] at hW'
  have hlt : ∀ x ∈ p, x.block < W.heap.size := fun x hx => by simpa using hW'.lt x hx
  have hstay : ∀ W', Below W.heap.size W W' → _ := fun W' hb => args_stay (enc := enc) Try.laidOut hb _ _ _ _ (by kernel_rfl) hA hlt
  obtain ⟨v0, v1, v2, v3, d0, d1, d2, d3, p0, p1, p2, p3, rfl, rfl, rfl, h0, h1, h2, h3⟩ := trodAll_four hA
  obtain ⟨fuel0, hf0⟩ := h0
  obtain ⟨aq0, lq0, cq0, rfl⟩ := okWide_slice Try.underlying25 (hval 0 25 v0 rfl rfl)
  obtain ⟨sl0, ao0, len0, cap0, hv0, hl0, hc0, hm0, hr0, hw0⟩ := view_segs Try.underlying25 Try.underlying33 Try.underlying31 (by kernel_rfl) (by kernel_rfl) Try.underlying22 Try.underlying5 (by kernel_rfl) (by kernel_rfl) rfl rfl rfl rfl hf0
  cases hv0
  obtain ⟨x1, rfl, rfl, rfl, wx1⟩ := open_int Try.underlying5 (hval 1 5 v1 rfl rfl) h1
  obtain ⟨x2, rfl, rfl, rfl, wx2⟩ := open_int Try.underlying47 (hval 2 47 v2 rfl rfl) h2
  obtain ⟨ao3, len3, cap3, rfl⟩ := okWide_slice Try.underlying40 (hval 3 40 v3 rfl rfl)
  obtain ⟨fuel3, hf3⟩ := h3
  obtain ⟨xs3, ao3', len3', cap3', hv3, hl3, hc3, hm3, hn3, hr3⟩ := view_bools Try.underlying40 Try.underlying4 Try.cellsBool hf3
  cases hv3
  refine (modesRoundTrip_walk aq0 lq0 cq0 sl0 x1 x2 ao3 len3 cap3 xs3 W hl0 hc0 hm0 hr0 (fun q hq => wf_i64_bd (hw0 q hq)) (wf_u8_bd wx1) (wf_u16_bd wx2) (by rw [length_bools] at hl3; exact hl3) hc3 hm3 hn3 hr3).mono fun e W' ⟨he, hb⟩ => ?_
  subst he
  exact ⟨_, rfl, _, _, _, [], _, [], hW', trodAll_mk1 (shut_bool Try.underlying4 _), hstay W' hb, rfl, hb.frame _, fun h => by cases h⟩

theorem modesRoundTrip_holds : Rows.ModesRoundTripSaid :=
  OpenClaim.holds_of_wide 7 Try.f7 rfl rfl rfl rfl rfl rfl rfl ⟨rfl, rfl, rfl, rfl, rfl⟩ rfl rfl rfl rfl rfl (by kernel_rfl) Try.func7 (by kernel_rfl)
    (of_decide_eq_true (by kernel_rfl)) (by unfold Func.isWrapper; first | (rw [if_pos (by decide +kernel)]; kernel_rfl) | (rw [if_neg (by decide +kernel)]; exact ⟨rfl, rfl⟩))
    (fun os started H enc _ => modesRoundTrip_lifted os started H enc)


end Go.Proofs.Ythebfpolijajgaa
