/-
  The contract of the reference's Bits.
  Conditions: the slice's cells are those of the list.
-/
import Derived.Test.YthebfpolijajgaaModeI
namespace Go.Proofs.Ythebfpolijajgaa
open Go.RowKit Go.Bs Go.Mode

set_option maxRecDepth 20000 in
set_option maxHeartbeats 1600000 in
theorem rbits_any (ao : Option Addr) (len cap : Nat) (l : List SegD) (c : Int) (w : World) (hl : l.length = len) (hc : len ≤ cap) (hm : cap ≤ 9223372036854775807) (hr : Segs w ao l) :
    Calls Try.prog 19 #[.slice ao len cap, .int .i64 c] w fun e w' => e = .returned (two (bitsRes l c)) ∧ Ext w w' := by
  have HL := Lib.hid hl
  have hle : l.length ≤ len := by omega
  have hge : len ≤ l.length := by omega
  clear hl
  rcases class_cases c with hcc | ⟨hcc, hcc'⟩ | hcc
  · rw [bitsRes_1 (Or.inl hcc)]
    go_enter Try.func19, Try.ntmps19
    go_wp2_with fail
    go_ret2
    exact ⟨rfl, Ext.refl _⟩
  · rw [bitsRes_1 (Or.inr hcc')]
    go_enter Try.func19, Try.ntmps19
    go_wp2_with fail
    go_ret2
    exact ⟨rfl, Ext.refl _⟩
  · obtain ⟨k, rfl, hk⟩ : ∃ k : Nat, c = k ∧ k ≤ 2 := ⟨c.toNat, by omega, by omega⟩
    clear hcc
    have HB2 : Hid ((l.all fun p => okMode p.1) = false → bitsRes l k = (0, 1)) := fun h => bitsRes_2 hk h
    obtain ⟨R, hR⟩ : ∃ R, R = bitsRes l k := ⟨_, rfl⟩
    rw [← hR] at HB2 ⊢
    have HR := Lib.hid hR
    clear hR
    go_enter Try.func19, Try.ntmps19
    go_wp2_with fail
    go_loop [6] (fun i => ∃ j : Nat, j ≤ len ∧ i = .int .i64 j ∧ Hid (((l.take j).all fun p => okMode p.1) = true)) (fun i => len - (intOf i).toNat)
    case atStart => exact ⟨0, Nat.zero_le _, rfl, rfl⟩
    case round =>
      obtain ⟨j, hj, rfl, HJ⟩ := hrel
      by_cases hlt : j < len
      · obtain ⟨b, off, v, rfl, hc0, hc1, hbs⟩ := hr j (l[j]'(by omega)) (List.getElem?_eq_getElem (by omega))
        cases hok : okMode (l[j]'(by omega)).1
        · have HB3 := Lib.hid (HB2.out (all_at _ l j (by omega) hok))
          have HOK := Lib.hid hok
          clear hok
          go_wp2_with fail
          refine (rknown_any _ _).mono ?_
          rw [HOK.out]
          rintro e w' ⟨rfl, rfl⟩
          go_wp2_with fail
          go_ret2
          exact ⟨by rw [HB3.out]; rfl, Ext.refl _⟩
        · have HJ2 := Lib.hid (all_take_succ (fun p => okMode p.1) l j (by omega) HJ.out hok)
          have HOK := Lib.hid hok
          clear hok
          go_wp2_with fail
          refine (rknown_any _ _).mono ?_
          rw [HOK.out]
          rintro e w' ⟨rfl, rfl⟩
          go_wp2_with fail
          go_round
          case rel => exact ⟨j + 1, by omega, int_eq (by omega), HJ2⟩
          case measure => simp [intOf]; omega
      · obtain rfl : j = len := by omega
        have hall : (l.all fun p => okMode p.1) = true := by have := HJ.out; rwa [List.take_of_length_le (by omega)] at this
        have HALL := Lib.hid hall
        clear hall HB2
        by_cases h4 : 4096 < j
        · have HB3 : Hid (R = (0, 4)) := by show _ = _; rw [HR.out]; exact bitsRes_3 hk HALL.out (by omega)
          go_wp2_with fail
          go_ret2
          exact ⟨by rw [HB3.out]; rfl, Ext.refl _⟩
        · go_wp2_with fail
          clear HJ
          have hjm : j ≤ 4096 := by omega
          go_loopw [7] (fun i wx => ∃ q : Nat, q ≤ j ∧ i = .int .i64 q ∧ Hid (((l.take q).all fun p => decide (p.2.length < 2 ^ cntB p.1 k)) = true) ∧ Ext w wx) (fun i _ => j - (intOf i).toNat)
          case atStart => exact ⟨0, Nat.zero_le _, rfl, rfl, Ext.refl _⟩
          case round =>
            obtain ⟨q, hq, rfl, HQ, hext⟩ := hrel
            by_cases hlt2 : q < j
            · obtain ⟨b, off, v, rfl, hc0, hc1, hbs⟩ := (hr.ext hext) q (l[q]'(by omega)) (List.getElem?_eq_getElem (by omega))
              obtain ⟨bo, bc, rfl, hbr, hbl, hbm, hbn⟩ := hbs
              have hmo : okMode (l[q]'(by omega)).1 = true := (List.all_eq_true.1 HALL.out) _ (List.getElem_mem (by omega))
              have HMO := Lib.hid hmo
              have hcb := cntB_bd (l[q]'(by omega)).1 k hk
              have HA : Hid (decide ((l[q]'(by omega)).2.length < 2 ^ cntB (l[q]'(by omega)).1 k) = false → R = (0, 4)) := fun h => by
                rw [HR.out]; exact bitsRes_4 hk HALL.out (by omega) (all_at _ l q (by omega) h)
              have HQ2 : Hid (decide ((l[q]'(by omega)).2.length < 2 ^ cntB (l[q]'(by omega)).1 k) = true → ((l.take (q + 1)).all fun p => decide (p.2.length < 2 ^ cntB p.1 k)) = true) := fun h =>
                all_take_succ _ l q (by omega) HQ.out h
              have hpw := (pow_cnt (cntB (l[q]'(by omega)).1 k) hcb.2).2
              have hp1 : 1 ≤ 2 ^ cntB (l[q]'(by omega)).1 k := Nat.pos_of_ne_zero (by simp)
              have HMM := fun W => Lib.hid (most_any (l[q]'(by omega)).1 k W hmo hk)
              clear hmo
              obtain ⟨n, hn⟩ : ∃ n, n = (l[q]'(by omega)).2.length := ⟨_, rfl⟩
              obtain ⟨m, hm'⟩ : ∃ m, m = (l[q]'(by omega)).1 := ⟨_, rfl⟩
              rw [← hn, ← hm'] at HA HQ2
              rw [← hn] at hc1 hbl
              rw [← hm'] at hc0 HMO hcb hpw hp1
              simp only [← hm'] at HMM
              clear hn hm' hbr
              obtain ⟨p, hp⟩ : ∃ p, p = 2 ^ cntB m k := ⟨_, rfl⟩
              rw [← hp] at HA HQ2 hpw hp1
              simp only [← hp] at HMM
              clear hp
              by_cases hnp : n < p
              · have HQ3 := Lib.hid (HQ2.out (by simpa using hnp))
                have hge1 : ¬ (p - 1 < n) := by omega
                clear HA HQ2
                go_wp2_with fail
                go_quiet ((go_at_call 51; exact quiet_same (HMM _).out))
                go_wp2_with fail
                go_roundw
                case rel => exact ⟨q + 1, by omega, int_eq (by omega), HQ3, hext.drewN _⟩
                case measure => simp [intOf]; omega
              · have HA2 := Lib.hid (HA.out (by simpa using hnp))
                have hge1 : p - 1 < n := by omega
                clear HA HQ2
                go_wp2_with fail
                go_quiet ((go_at_call 51; exact quiet_same (HMM _).out))
                go_wp2_with fail
                go_ret2
                exact ⟨by rw [HA2.out]; rfl, hext.drewN _⟩
            · obtain rfl : q = j := by omega
              have hlen : (l.all fun p => decide (p.2.length < 2 ^ cntB p.1 k)) = true := by have := HQ.out; rwa [List.take_of_length_le (by omega)] at this
              have HLEN := Lib.hid hlen
              clear hlen HQ
              go_wp2_with fail
              go_loopw [8, 9, 10] (fun t i _ wx => ∃ r T : Nat, r ≤ q ∧ T ≤ r * 1048576 ∧ i = .int .i64 r ∧ t = .int .i64 T ∧ Hid (T = total k (l.take r)) ∧ Hid (((l.take r).all fun p => p.2.all (fitsB p.1)) = true) ∧ Ext w wx) (fun _ i _ _ => q - (intOf i).toNat)
              case atStart => exact ⟨0, 0, Nat.zero_le _, by omega, rfl, rfl, rfl, rfl, hext⟩
              case round =>
                clear hext
                obtain ⟨r, T, hrq, hT, rfl, rfl, HT, HF, hext⟩ := hrel
                by_cases hlt3 : r < q
                · obtain ⟨b, off, v, rfl, hc0, hc1, hbs⟩ := (hr.ext hext) r (l[r]'(by omega)) (List.getElem?_eq_getElem (by omega))
                  obtain ⟨bo, bc, rfl, hbr, hbl, hbm, hbn⟩ := hbs
                  have hmo : okMode (l[r]'(by omega)).1 = true := (List.all_eq_true.1 HALL.out) _ (List.getElem_mem (by omega))
                  have hll : (l[r]'(by omega)).2.length < 2 ^ cntB (l[r]'(by omega)).1 k := by simpa using (List.all_eq_true.1 HLEN.out) _ (List.getElem_mem (by omega))
                  have hsb := segB_bd _ k _ hk hll
                  have hpw := (pow_cnt (cntB (l[r]'(by omega)).1 k) (cntB_bd (l[r]'(by omega)).1 k hk).2).2
                  have hn40 : (l[r]'(by omega)).2.length ≤ 65536 := by omega
                  have HTT := Lib.hid (total_take k l r (by omega))
                  rw [← HT.out] at HTT
                  have HSS := fun W => Lib.hid (rsegsize_any (l[r]'(by omega)).1 k (l[r]'(by omega)).2.length W hmo hk (by omega))
                  have HA : Hid ((l[r]'(by omega)).2.all (fitsB (l[r]'(by omega)).1) = false → R = (0, 6)) := fun h => by
                    rw [HR.out]; exact bitsRes_5 hk HALL.out (by omega) HLEN.out (all_at (fun p : SegD => p.2.all (fitsB p.1)) l r (by omega) h)
                  have HF2 : Hid ((l[r]'(by omega)).2.all (fitsB (l[r]'(by omega)).1) = true → ((l.take (r + 1)).all fun p => p.2.all (fitsB p.1)) = true) := fun h =>
                    all_take_succ (fun p : SegD => p.2.all (fitsB p.1)) l r (by omega) HF.out h
                  clear hmo hll hpw
                  obtain ⟨pr, hpr⟩ : ∃ pr, pr = (l[r]'(by omega)) := ⟨_, rfl⟩
                  rw [← hpr] at HA HF2 hc0 hc1 hbr hbl hsb hn40 HTT
                  simp only [← hpr] at HSS
                  clear hpr
                  obtain ⟨m, d⟩ := pr
                  simp only at HA HF2 hc0 hc1 hbr hbl hsb hn40 HTT HSS
                  obtain ⟨sg, hsg⟩ : ∃ sg, sg = segB m k d.length := ⟨_, rfl⟩
                  rw [← hsg] at hsb HTT
                  simp only [← hsg] at HSS
                  clear hsg
                  go_wp2_with fail
                  go_loopw [10] (fun i wy => ∃ t : Nat, t ≤ d.length ∧ i = .int .i64 t ∧ Hid ((d.take t).all (fitsB m) = true) ∧ Ext wr wy) (fun i _ => d.length - (intOf i).toNat)
                  case atStart => exact ⟨0, Nat.zero_le _, rfl, rfl, Ext.refl _⟩
                  case round =>
                    obtain ⟨t, htd, rfl, HFT, hxy⟩ := hrel
                    have c0 := hxy.cell hc0
                    have c1 := hxy.cell hc1
                    by_cases hlt4 : t < d.length
                    · obtain ⟨ab, rfl, hcb⟩ := (hbr.ext hxy).at (byts_at d t hlt4)
                      have HFA := fun W => Lib.hid (rfits_any m d[t] W)
                      cases hfi : fitsB m d[t]
                      · have HA2 := Lib.hid (HA.out (all_at (fitsB m) d t hlt4 hfi))
                        simp only [hfi] at HFA
                        clear hfi
                        go_wp2_with fail
                        go_quiet ((go_at_call 39; exact quiet_same (HFA _).out))
                        go_wp2_with fail
                        go_ret2
                        exact ⟨by rw [HA2.out]; rfl, (hext.trans hxy).drewN _⟩
                      · have HFT2 := Lib.hid (all_take_succ (fitsB m) d t hlt4 HFT.out hfi)
                        simp only [hfi] at HFA
                        clear hfi
                        go_wp2_with fail
                        go_quiet ((go_at_call 39; exact quiet_same (HFA _).out))
                        go_wp2_with fail
                        go_roundw
                        case rel => exact ⟨t + 1, by omega, int_eq (by omega), HFT2, hxy.drewN _⟩
                        case measure => simp [intOf]; omega
                    · have hd : d.all (fitsB m) = true := by have := HFT.out; rwa [List.take_of_length_le (by omega)] at this
                      have HF3 := Lib.hid (HF2.out hd)
                      clear hd HFT
                      obtain rfl : t = d.length := by omega
                      have s3 : IntKind.i64.wrap ((T : Int) + (sg : Int)) = (T : Int) + (sg : Int) := IntWalk.i64_in _ (by omega)
                      go_wp2_with fail
                      go_quiet ((go_at_call 52; exact quiet_same (HSS _).out))
                      clear s3
                      go_wp2_with fail
                      go_roundw
                      case rel => exact ⟨r + 1, T + sg, by omega, by omega, int_eq (by omega), int_eq (by omega), by show _ = _; rw [HTT.out], HF3, (hext.trans hxy).drewN _⟩
                      case measure => simp [intOf]; omega
                · obtain rfl : r = q := by omega
                  have hfit : (l.all fun p => p.2.all (fitsB p.1)) = true := by have := HF.out; rwa [List.take_of_length_le (by omega)] at this
                  have HRR : Hid (R = if 1048576 < T then (0, 4) else ((T : Int), 0)) := by
                    show _ = _
                    rw [HR.out, bitsRes_6 hk HALL.out (by omega) HLEN.out hfit, HT.out, List.take_of_length_le (by omega)]
                  clear hfit
                  by_cases hbig : 1048576 < T
                  · have HR2 : Hid (R = (0, 4)) := by show _ = _; rw [HRR.out, if_pos hbig]
                    go_wp2_with fail
                    go_ret2
                    exact ⟨by rw [HR2.out]; rfl, hext⟩
                  · have HR2 : Hid (R = ((T : Int), 0)) := by show _ = _; rw [HRR.out, if_neg hbig]
                    go_wp2_with fail
                    go_ret2
                    exact ⟨by rw [HR2.out]; rfl, hext⟩

end Go.Proofs.Ythebfpolijajgaa
