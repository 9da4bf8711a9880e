/-
  The contract of the reference's Encode.
  Conditions: the slice's cells are those of the list.
-/
import Derived.Test.YthebfpolijajgaaModeJ
namespace Go.Proofs.Ythebfpolijajgaa
open Go.RowKit Go.Bs Go.Mode

theorem drew2 (w : World) (n k : Nat) : (w.drewN n).drewN k = w.drewN (n + k) := by simp [World.drewN, Nat.add_assoc]

theorem quiet_more {P : Program} {f : FuncId} {args : Array Value} {w : World} {n : Nat} {v : Value}
    (h : Calls P f args (w.drewN n) fun e w' => e = .returned v ∧ ∃ k, w' = (w.drewN n).drewN k) : Calls P f args (w.drewN n) fun e w'' => e = .returned v ∧ ∃ m, w'' = w.drewN m :=
  h.mono fun _ _ ⟨he, k, hm⟩ => ⟨he, n + k, by rw [hm, drew2]⟩

theorem len_encS (k : Nat) (q : SegD) (h : okMode q.1 = true) : (encS k q).length = segB q.1 k q.2.length := by
  unfold encS segB; simp only [List.length_append, length_lowBits, length_encD q.1 h q.2.length q.2 rfl]; omega

/-- A row that is at hand as a slice. -/
def SlB (w : World) (v : Value) (xs : List Bool) : Prop :=
  ∃ ao cap, v = .slice ao xs.length cap ∧ Row w ao (bools xs) ∧ xs.length ≤ cap ∧ cap ≤ 9223372036854775807 ∧ (ao = none → cap = 0)

set_option maxRecDepth 20000 in
set_option maxHeartbeats 1600000 in
theorem rencode_any (ao : Option Addr) (len cap : Nat) (l : List SegD) (c : Int) (w : World) (hl : l.length = len) (hc : len ≤ cap) (hm : cap ≤ 9223372036854775807) (hr : Segs w ao l) :
    Calls Try.prog 32 #[.slice ao len cap, .int .i64 c] w (RetSl w (bools (encRes l c).1, (encRes l c).2)) := by
  have HBI := Lib.hid (rbits_any ao len cap l c w hl hc hm hr)
  obtain ⟨T, E, hTE⟩ : ∃ T E, bitsRes l c = (T, E) := ⟨_, _, rfl⟩
  by_cases hE : E = 0
  case neg =>
    rw [show encRes l c = ([], E) from by unfold encRes; rw [hTE, if_neg hE]]
    have hne : (E != 0) = true := by simp [hE]
    have HTE := Lib.hid hTE
    clear hTE hE hl
    go_enter Try.func32, Try.ntmps32
    go_wp2_with fail
    refine HBI.out.mono ?_
    rw [HTE.out]
    rintro e w1 ⟨rfl, hx1⟩
    simp only [two]
    go_wp2_with fail
    go_ret2
    exact RetSl.nil _ _ _ hx1
  case pos =>
    subst hE
    obtain ⟨k, rfl, hk, hok, h4, hlen, hfit, htot, rfl⟩ := bits_inv hTE
    rw [show encRes l k = (l.flatMap (encS k), 0) from by unfold encRes; rw [hTE, if_pos rfl]; rfl]
    have HTE := Lib.hid hTE
    have HOK := Lib.hid hok
    have HLEN := Lib.hid hlen
    have HFIT := Lib.hid hfit
    have HL := Lib.hid hl
    have hle : l.length ≤ len := by omega
    have hge : len ≤ l.length := by omega
    have h4' : len ≤ 4096 := by omega
    clear hTE hok hlen hfit hl
    obtain ⟨T, hT⟩ : ∃ T, T = total k l := ⟨_, rfl⟩
    rw [← hT] at htot HTE
    have HT := Lib.hid hT
    clear hT h4
    go_enter Try.func32, Try.ntmps32
    go_wp2_with fail
    refine HBI.out.mono ?_
    rw [HTE.out]
    rintro e w1 ⟨rfl, hx1⟩
    simp only [two]
    go_wp2_with fail
    go_loopw [8, 9, 10, 11, 12, 13, 14, 15] (fun b i _ _ _ _ _ _ wr => ∃ j : Nat, j ≤ len ∧ i = .int .i64 j ∧ Hid (((l.take j).flatMap (encS k)).length = total k (l.take j)) ∧ Hid (SlB wr b ((l.take j).flatMap (encS k))) ∧ Hid (Ext w wr)) (fun _ i _ _ _ _ _ _ _ => len - (intOf i).toNat)
    case atStart => exact ⟨0, Nat.zero_le _, rfl, rfl, ⟨none, 0, rfl, Row.nil _ _, Nat.le_refl _, by decide, fun _ => rfl⟩, hx1⟩
    case round =>
      clear hx1 HTE
      obtain ⟨j, hj, rfl, HLJ, HSL, HEXT⟩ := hrel
      have hext := HEXT.out
      by_cases hlt : j < len
      · obtain ⟨b0, off, v0, rfl, hc0, hc1, hbs⟩ := (hr.ext hext) j (l[j]'(by omega)) (List.getElem?_eq_getElem (by omega))
        have hmo : okMode (l[j]'(by omega)).1 = true := fst_all (q := fun p => okMode p.1) HOK.out j (by omega)
        have hdl : (l[j]'(by omega)).2.length < 2 ^ cntB (l[j]'(by omega)).1 k := by simpa using fst_all HLEN.out j (by omega)
        have hdf : (l[j]'(by omega)).2.all (fitsB (l[j]'(by omega)).1) = true := fst_all (q := fun p => p.2.all (fitsB p.1)) HFIT.out j (by omega)
        have HFM := Lib.hid (show (l.take (j + 1)).flatMap (encS k) = (l.take j).flatMap (encS k) ++ encS k (l[j]'(by omega)) from by rw [List.take_succ_eq_append_getElem (by omega), List.flatMap_append, List.flatMap_cons, List.flatMap_nil, List.append_nil])
        have HTT := Lib.hid (total_take k l j (by omega))
        have hTle : total k (l.take (j + 1)) ≤ T := by rw [HT.out]; exact total_mono k l (j + 1)
        rw [HTT.out, ← HLJ.out] at hTle
        rw [← HLJ.out] at HTT
        obtain ⟨acc, hacc⟩ : ∃ acc, acc = (l.take j).flatMap (encS k) := ⟨_, rfl⟩
        rw [← hacc] at HSL HFM hTle HTT
        obtain ⟨pr, hpr⟩ : ∃ pr, pr = (l[j]'(by omega)) := ⟨_, rfl⟩
        rw [← hpr] at hc0 hbs hmo hdl hdf HFM HTT hTle
        clear hpr hacc hext
        obtain ⟨m, d⟩ := pr
        simp only at hc0 hbs hmo hdl hdf HFM HTT hTle
        obtain ⟨bo, bc, rfl, hbr, hbl, hbm, hbn⟩ := hbs
        have hcb := cntB_bd m k hk
        have hpw := (pow_cnt (cntB m k) hcb.2).2
        have hd65 : d.length < 65536 := by omega
        have HC := Lib.hid (ctRes_ok m k hmo hk)
        have HMO := Lib.hid hmo
        have HDF := Lib.hid hdf
        have hsg : segB m k d.length = 4 + cntB m k + dsize m d.length := rfl
        rw [hsg] at hTle HTT
        have HLE := Lib.hid (len_encS k (m, d) hmo)
        simp only [hsg] at HLE
        clear hmo hdf hdl hpw hsg
        obtain ⟨C, hC⟩ : ∃ C, C = cntB m k := ⟨_, rfl⟩
        rw [← hC] at HC hcb hTle HTT HLE
        have HCC := Lib.hid hC
        obtain ⟨D, hD⟩ : ∃ D, D = dsize m d.length := ⟨_, rfl⟩
        rw [← hD] at hTle HTT HLE
        have HDD := Lib.hid hD
        clear hC hD
        obtain ⟨so, sc, rfl, hsr, hsc, hsm, hsn⟩ := HSL.out
        have HA1 : Hid (appRes acc m 4 = (acc ++ lowBits m 4, 0)) := by show _ = _; rw [appRes_3 (by omega) (by omega)]; rfl
        have HA2 : Hid (appRes (acc ++ lowBits m 4) d.length C = (acc ++ lowBits m 4 ++ lowBits d.length C, 0)) := by
          show _ = _; rw [appRes_3 (by omega) (by rw [List.length_append, length_lowBits]; omega)]; rfl
        go_wp2_with fail
        refine (rcountBits_any _ _ _).mono ?_
        rw [HC.out]
        rintro e w' ⟨rfl, rfl⟩
        simp only [two]
        go_wp2_with fail
        refine (rappend_any so acc.length sc acc m 4 _ rfl (by omega) hsn hsr).mono ?_
        rw [HA1.out]
        intro e w2 hret
        obtain ⟨s2, c2, rfl, hr2, hc2, hm2, hn2, hx2⟩ := hret.bools
        have z0 := hx2.cell hc0
        have z1 := hx2.cell hc1
        have HX2 := Lib.hid (HEXT.out.trans hx2)
        have HBR2 := Lib.hid (hbr.ext hx2)
        clear hret hx2 hc0 hc1 hbr hsr hsc hsm hsn
        obtain ⟨acc1, hacc1⟩ : ∃ acc1, acc1 = acc ++ lowBits m 4 := ⟨_, rfl⟩
        have ha1l : acc1.length = acc.length + 4 := by rw [hacc1, List.length_append, length_lowBits]
        rw [← hacc1] at hr2 hc2 HA2 ⊢
        have HAC1 := Lib.hid hacc1
        obtain ⟨n1, hn1⟩ : ∃ n1, n1 = acc1.length := ⟨_, rfl⟩
        have HN1 := Lib.hid hn1.symm
        rw [← hn1] at ha1l hc2 ⊢
        have HA1L := Lib.hid ha1l
        have hn1b : n1 ≤ 1048576 := by omega
        clear hacc1 hn1 ha1l
        go_wp2_with fail
        refine (rappend_any s2 n1 c2 acc1 d.length C _ HN1.out (by omega) hn2 hr2).mono ?_
        rw [HA2.out]
        intro e w3 hret
        obtain ⟨s3, c3, rfl, hr3, hc3, hm3, hn3, hx3⟩ := hret.bools
        have Z0 := Lib.hid (hx3.cell z0)
        have Z1 := Lib.hid (hx3.cell z1)
        have HX3 := Lib.hid (HX2.out.trans hx3)
        have HBR3 := Lib.hid (HBR2.out.ext hx3)
        have HR3 := Lib.hid hr3
        clear hret hx3 z0 z1 hr2 hr3 hc2 hm2 hn2 HBR2 HX2
        obtain ⟨acc2, hacc2⟩ : ∃ acc2, acc2 = acc1 ++ lowBits (d.length : Int) C := ⟨_, rfl⟩
        have hal : acc2.length = acc.length + 4 + C := by rw [hacc2, List.length_append, length_lowBits, HN1.out, HA1L.out]
        rw [← hacc2] at HR3 hc3 ⊢
        have HAC := Lib.hid hacc2
        have HAL := Lib.hid hal
        have halb : acc2.length + D ≤ 1048576 := by omega
        clear hacc2 hal
        have hun := unit_pos m
        have hun3 : unitN m ≤ 3 := by unfold unitN; split <;> (try split) <;> omega
        obtain ⟨U, hU⟩ : ∃ U, U = unitN m := ⟨_, rfl⟩
        have HU := Lib.hid hU
        rw [← hU] at hun hun3
        clear hU
        have HLD := Lib.hid (length_encD m HMO.out d.length d rfl)
        rw [← HDD.out] at HLD
        go_wp2_with fail
        go_loopw [8, 12, 13, 14, 15] (fun b i _ _ _ wy => ∃ (p : Nat) (E : List Bool), p ≤ d.length ∧ i = .int .i64 p ∧ E.length ≤ D ∧ Hid (E ++ encD m (d.drop p) = encD m d) ∧ Hid (SlB wy b (acc2 ++ E)) ∧ Hid (Ext w3 wy)) (fun _ i _ _ _ _ => d.length - (intOf i).toNat)
        case atStart => exact ⟨0, [], Nat.zero_le _, rfl, Nat.zero_le _, rfl, ⟨s3, c3, by simp, by simpa using HR3.out, by simpa using hc3, hm3, hn3⟩, Ext.refl _⟩
        case round =>
          obtain ⟨p, E, hp, rfl, hEl, HE, HSB, HXY⟩ := hrel
          have z0 := HXY.out.cell Z0.out
          have z1 := HXY.out.cell Z1.out
          by_cases hpd : p < d.length
          · obtain ⟨so, sc, rfl, hsr, hsc, hsm, hsn⟩ := HSB.out
            have HBY := Lib.hid (HBR3.out.ext HXY.out)
            obtain ⟨N, hN⟩ : ∃ N : Nat, N = min (d.length - p) U := ⟨_, rfl⟩
            have hN1 : 1 ≤ N := by omega
            have hN2 : N ≤ d.length - p := by omega
            have hN3 : N ≤ 3 := by omega
            have HGA := fun W (hx : Ext wr W) ao' (ha : p < d.length → ao' = bo.map (·.add p)) => Lib.hid (group_any m ao' (d.length - p) (bc - p) (d.drop p) W HMO.out (by simp) (by omega) (by omega) (by omega) (by rw [List.all_eq_true]; intro x hx; exact (List.all_eq_true.1 HDF.out) x (List.mem_of_mem_drop hx)) (by rw [byts_drop]; exact Row.dropped (HBY.out.ext hx) p (fun _ => ha hpd)))
            have HGR : Hid (grpRes m (d.drop p) = (gval m ((d.drop p).take U), ((dsize m N : Nat) : Int), (N : Int))) := by
              show _ = _; unfold grpRes; rw [List.length_drop, ← HU.out, ← hN]
            simp only [HGR.out, three] at HGA
            have hdz : dsize m N ≤ 11 := dsize_unit m N HMO.out (by rw [← HU.out]; omega)
            have h1 := encD_step m (d.drop p) (by intro e; have h2 := congrArg List.length e; simp at h2; omega)
            rw [List.length_drop, ← HU.out, ← hN, List.drop_drop] at h1
            have hsum : E.length + dsize m N ≤ D := by
              have h2 := congrArg List.length HE.out
              rw [h1, List.length_append, List.length_append, length_lowBits, HLD.out] at h2
              omega
            have hdrop : List.drop (p + U) d = List.drop (p + N) d := by
              rcases Nat.le_total (d.length - p) U with h | h
              · rw [List.drop_of_length_le (by omega), List.drop_of_length_le (by omega)]
              · rw [show N = U by omega]
            have HEN : Hid ((E ++ lowBits (gval m ((d.drop p).take U)) (dsize m N)) ++ encD m (d.drop (p + N)) = encD m d) := by
              show _ = _
              rw [← HE.out, h1, List.append_assoc, hdrop]
            obtain ⟨V, hV⟩ : ∃ V, V = gval m ((d.drop p).take U) := ⟨_, rfl⟩
            rw [← hV] at HEN
            simp only [← hV] at HGA
            obtain ⟨S, hS⟩ : ∃ S, S = dsize m N := ⟨_, rfl⟩
            rw [← hS] at HEN hsum hdz
            simp only [← hS] at HGA
            have HA3 : Hid (appRes (acc2 ++ E) V S = (acc2 ++ E ++ lowBits V S, 0)) := by
              show _ = _; rw [appRes_3 (by omega) (by rw [List.length_append]; omega)]; rfl
            clear hS hV h1 hdrop hN HGR
            go_wp2_with fail
            go_quiet ((go_at_call 68; exact quiet_more (HGA _ ((Ext.refl wr).drewN _) _ (by intro _; first | rfl | (rw [if_neg (by omega)]))).out))
            obtain ⟨ac3, hac3⟩ : ∃ ac3, ac3 = acc2 ++ E := ⟨_, rfl⟩
            rw [← hac3] at HA3 hsr hsc ⊢
            have H3L : Hid (ac3.length = acc2.length + E.length) := by show _ = _; rw [hac3, List.length_append]
            have HAC3 := Lib.hid hac3
            obtain ⟨n3, hn3'⟩ : ∃ n3, n3 = ac3.length := ⟨_, rfl⟩
            have HN3 := Lib.hid hn3'.symm
            rw [← hn3'] at hsc ⊢
            have hn3b : n3 ≤ 1048576 := by have := H3L.out; omega
            clear hac3 hn3'
            go_wp2_with fail
            refine (rappend_any so n3 sc ac3 V S _ HN3.out (by omega) hsn (hsr.ext ((Ext.refl wr).drewN _))).mono ?_
            rw [HA3.out]
            intro e w4 hret
            obtain ⟨s4, c4, rfl, hr4, hc4, hm4, hn4, hx4⟩ := hret.bools
            clear hret
            have HX4 : Hid (Ext w3 w4) := HXY.out.trans (((Ext.refl wr).drewN _).trans hx4)
            have HS4 : Hid (SlB w4 (.slice s4 (ac3 ++ lowBits V S).length c4) (acc2 ++ (E ++ lowBits V S))) := by
              show SlB _ _ _
              rw [← List.append_assoc, ← HAC3.out]
              exact ⟨s4, c4, rfl, hr4, hc4, hm4, hn4⟩
            have hp2 : p + N ≤ d.length := by omega
            clear hr4 hc4 hx4 hsr z0 z1
            obtain ⟨n4, hn4'⟩ : ∃ n4, n4 = (ac3 ++ lowBits V S).length := ⟨_, rfl⟩
            rw [← hn4'] at HS4 ⊢
            clear hn4'
            go_wp2_with fail
            go_roundw
            case rel => exact ⟨p + N, E ++ lowBits V S, hp2, int_eq (by omega), by rw [List.length_append, length_lowBits]; exact hsum, HEN, HS4, HX4⟩
            case measure => simp [intOf]; omega
          · obtain rfl : p = d.length := by omega
            have hE : E = encD m d := by have := HE.out; rwa [List.drop_length, encD, List.append_nil] at this
            have HFIN : Hid (acc2 ++ E = (l.take (j + 1)).flatMap (encS k)) := by
              show _ = _
              rw [HFM.out, hE, HAC.out, HAC1.out, encS, HCC.out, List.append_assoc, List.append_assoc]
            have HLN : Hid (((l.take (j + 1)).flatMap (encS k)).length = total k (l.take (j + 1))) := by
              show _ = _
              rw [HFM.out, List.length_append, HLE.out, HTT.out]
            have HXE := Lib.hid (HX3.out.trans HXY.out)
            rw [HFIN.out] at HSB
            clear hE HE
            go_wp2_with fail
            go_roundw
            case rel => exact ⟨j + 1, by omega, int_eq (by omega), HLN, HSB, HXE⟩
            case measure => simp [intOf]; omega
      · obtain rfl : j = len := by omega
        have HFL : Hid (l.take j = l) := List.take_of_length_le (by omega)
        rw [HFL.out] at HSL
        obtain ⟨so, sc, rfl, hsr, hsc, hsm, hsn⟩ := HSL.out
        go_wp2_with fail
        go_ret2
        exact ⟨so, sc, by rw [length_bools]; rfl, hsr, by rw [length_bools]; exact hsc, hsm, hsn, HEXT.out⟩

end Go.Proofs.Ythebfpolijajgaa
