/-
  The contract of modes.Bits.
  Conditions: the slice's cells are those of the list.
-/
import Derived.Test.YthebfpolijajgaaModeE
import Derived.Test.YthebfpolijajgaaSeg
import Derived.Deep.RegionWith
import Derived.Deep.DeepCutAuto
namespace Go.Proofs.Ythebfpolijajgaa
open Go.RowKit Go.Bs Go.Mode

theorem all_at {α : Type} (p : α → Bool) (l : List α) (k : Nat) (h : k < l.length) (hp : p l[k] = false) : l.all p = false := by
  rw [List.all_eq_false]
  exact ⟨l[k], List.getElem_mem h, by simp [hp]⟩
theorem all_take_succ {α : Type} (p : α → Bool) (l : List α) (k : Nat) (h : k < l.length) (h1 : (l.take k).all p = true) (hp : p l[k] = true) : (l.take (k + 1)).all p = true := by
  rw [List.take_succ_eq_append_getElem h, List.all_append, h1]
  simp [hp]

theorem total_snoc (k : Nat) (l : List (Int × List UInt8)) (p : Int × List UInt8) : total k (l ++ [p]) = total k l + segB p.1 k p.2.length := by
  unfold total
  rw [List.map_append, List.foldl_append]
  rfl
theorem total_take (k : Nat) (l : List (Int × List UInt8)) (i : Nat) (h : i < l.length) : total k (l.take (i + 1)) = total k (l.take i) + segB l[i].1 k l[i].2.length := by
  rw [List.take_succ_eq_append_getElem h, total_snoc]

theorem bitsRes_1 {l : List SegD} {c : Int} (h : c < 0 ∨ 2 < c) : bitsRes l c = (0, 1) := by unfold bitsRes; rw [if_pos h]
theorem bitsRes_2 {l : List SegD} {k : Nat} (hk : k ≤ 2) (h : (l.all fun p => okMode p.1) = false) : bitsRes l k = (0, 1) := by
  unfold bitsRes; rw [if_neg (by omega), if_pos h]

theorem bitsRes_3 {l : List SegD} {k : Nat} (hk : k ≤ 2) (h : (l.all fun p => okMode p.1) = true) (h2 : 4096 < l.length) : bitsRes l k = (0, 4) := by
  unfold bitsRes; rw [if_neg (by omega), if_neg (by rw [h]; simp), if_pos h2]
theorem bitsRes_4 {l : List SegD} {k : Nat} (hk : k ≤ 2) (h : (l.all fun p => okMode p.1) = true) (h2 : ¬ 4096 < l.length) (h3 : (l.all fun p => decide (p.2.length < 2 ^ cntB p.1 k)) = false) : bitsRes l k = (0, 4) := by
  unfold bitsRes; rw [if_neg (by omega), if_neg (by rw [h]; simp), if_neg h2, Int.toNat_natCast, if_pos h3]
theorem bitsRes_5 {l : List SegD} {k : Nat} (hk : k ≤ 2) (h : (l.all fun p => okMode p.1) = true) (h2 : ¬ 4096 < l.length) (h3 : (l.all fun p => decide (p.2.length < 2 ^ cntB p.1 k)) = true)
    (h4 : (l.all fun p => p.2.all (fitsB p.1)) = false) : bitsRes l k = (0, 6) := by
  unfold bitsRes; rw [if_neg (by omega), if_neg (by rw [h]; simp), if_neg h2, Int.toNat_natCast, if_neg (by rw [h3]; simp), if_pos h4]
theorem bitsRes_6 {l : List SegD} {k : Nat} (hk : k ≤ 2) (h : (l.all fun p => okMode p.1) = true) (h2 : ¬ 4096 < l.length) (h3 : (l.all fun p => decide (p.2.length < 2 ^ cntB p.1 k)) = true)
    (h4 : (l.all fun p => p.2.all (fitsB p.1)) = true) : bitsRes l k = if 1048576 < total k l then (0, 4) else ((total k l : Int), 0) := by
  unfold bitsRes; rw [if_neg (by omega), if_neg (by rw [h]; simp), if_neg h2, Int.toNat_natCast, if_neg (by rw [h3]; simp), if_neg (by rw [h4]; simp)]

theorem pow_cnt (b : Nat) (h : b ≤ 16) : wrap64 (2 ^ b) = ((2 ^ b : Nat) : Int) ∧ 2 ^ b ≤ 65536 := by
  have h3 : 2 ^ b ≤ 2 ^ 16 := Nat.pow_le_pow_right (by decide) h
  refine ⟨?_, h3⟩
  have e : (2 : Int) ^ b = ((2 ^ b : Nat) : Int) := by rw [Int.natCast_pow]; rfl
  rw [e]
  generalize 2 ^ b = p at h3 ⊢
  exact IntWalk.wrap64_in _ ⟨by omega, by omega⟩
/-- Sizes are small where the counts hold. -/
theorem segB_bd (m : Int) (k n : Nat) (hk : k ≤ 2) (h : n < 2 ^ cntB m k) : segB m k n ≤ 1048576 := by
  have hb := cntB_bd m k hk
  have h3 : 2 ^ cntB m k ≤ 2 ^ 16 := Nat.pow_le_pow_right (by decide) hb.2
  have hd : dsize m n ≤ 11 * n + 7 := by unfold dsize; split <;> (try split) <;> (try split) <;> (try split) <;> omega
  unfold segB
  generalize 2 ^ cntB m k = q at h h3
  omega

set_option maxRecDepth 20000 in
set_option maxHeartbeats 800000 in
theorem bits_any (ao : Option Addr) (len cap : Nat) (l : List SegD) (c : Int) (w : World) (hl : l.length = len) (hc : len ≤ cap) (hm : cap ≤ 9223372036854775807) (hr : Segs w ao l) :
    Calls Try.prog 18 #[.slice ao len cap, .int .i64 c] w fun e w' => e = .returned (two (bitsRes l c)) ∧ Ext w w' := by
  have HL := Lib.hid hl
  have hle : l.length ≤ len := by omega
  have hge : len ≤ l.length := by omega
  clear hl
  rcases class_cases c with hcc | ⟨hcc, hcc'⟩ | hcc
  · rw [bitsRes_1 (Or.inl hcc)]
    go_enter Try.func18, Try.ntmps18
    go_wp2_with fail
    go_ret2
    exact ⟨rfl, Ext.refl _⟩
  · rw [bitsRes_1 (Or.inr hcc')]
    go_enter Try.func18, Try.ntmps18
    go_wp2_with fail
    go_ret2
    exact ⟨rfl, Ext.refl _⟩
  · obtain ⟨k, rfl, hk⟩ : ∃ k : Nat, c = k ∧ k ≤ 2 := ⟨c.toNat, by omega, by omega⟩
    clear hcc
    have HB2 : Hid ((l.all fun p => okMode p.1) = false → bitsRes l k = (0, 1)) := fun h => bitsRes_2 hk h
    obtain ⟨R, hR⟩ : ∃ R, R = bitsRes l k := ⟨_, rfl⟩
    rw [← hR] at HB2 ⊢
    have HR := Lib.hid hR
    clear hR
    go_enter Try.func18, Try.ntmps18
    go_wp2_with fail
    go_loopw [7, 25] (fun _ i wr => ∃ j : Nat, j ≤ len ∧ i = .int .i64 j ∧ Hid (((l.take j).all fun p => okMode p.1) = true) ∧ Ext w wr) (fun _ i _ => len - (intOf i).toNat)
    case atStart => exact ⟨0, Nat.zero_le _, rfl, rfl, Ext.refl _⟩
    case round =>
      obtain ⟨j, hj, rfl, HJ, hext⟩ := hrel
      by_cases hlt : j < len
      · obtain ⟨b, off, v, rfl, hc0, hc1, hbs⟩ := (hr.ext hext) j (l[j]'(by omega)) (List.getElem?_eq_getElem (by omega))
        obtain ⟨bo, bc, rfl, hbr, hbl, hbm, hbn⟩ := hbs
        cases hok : okMode (l[j]'(by omega)).1
        · have HB3 := Lib.hid (HB2.out (all_at _ l j (by omega) hok))
          have HOK := Lib.hid hok
          clear hok
          go_wp2_with fail
          refine (known_any _ _).mono ?_
          rw [HOK.out]
          rintro e w' ⟨rfl, rfl⟩
          go_wp2_with fail
          go_ret2
          exact ⟨by rw [HB3.out]; rfl, hext.trans (Ext.alloc _ _)⟩
        · have HJ2 := Lib.hid (all_take_succ (fun p => okMode p.1) l j (by omega) HJ.out hok)
          have HOK := Lib.hid hok
          clear hok
          go_wp2_with fail
          refine (known_any _ _).mono ?_
          rw [HOK.out]
          rintro e w' ⟨rfl, rfl⟩
          go_wp2_with fail
          go_roundw
          case rel => exact ⟨j + 1, by omega, int_eq (by omega), HJ2, hext.trans (Ext.alloc _ _)⟩
          case measure => simp [intOf]; omega
      · obtain rfl : j = len := by omega
        have hall : (l.all fun p => okMode p.1) = true := by have := HJ.out; rwa [List.take_of_length_le (by omega)] at this
        have HALL := Lib.hid hall
        clear hall HB2
        by_cases h4 : 4096 < j
        · have HB3 : Hid (R = (0, 4)) := by show _ = _; rw [HR.out]; exact bitsRes_3 hk HALL.out (by omega)
          go_wp2_with fail
          go_ret2
          exact ⟨by rw [HB3.out]; rfl, hext⟩
        · go_wp2_with fail
          clear HJ
          have hjm : j ≤ 4096 := by omega
          go_loopw [8, 10, 11, 12, 39] (fun t _ _ _ i wx => ∃ q T : Nat, q ≤ j ∧ T ≤ q * 1048576 ∧ i = .int .i64 q ∧ t = .int .i64 T ∧ Hid (T = total k (l.take q)) ∧ Hid (((l.take q).all fun p => decide (p.2.length < 2 ^ cntB p.1 k)) = true) ∧ Ext w wx) (fun _ _ _ _ i _ => j - (intOf i).toNat)
          case atStart => exact ⟨0, 0, Nat.zero_le _, by omega, rfl, rfl, rfl, rfl, hext⟩
          case round =>
            clear hext
            obtain ⟨q, T, hq, hT, rfl, rfl, HT, HQ, hext⟩ := hrel
            by_cases hlt2 : q < j
            · obtain ⟨b, off, v, rfl, hc0, hc1, hbs⟩ := (hr.ext hext) q (l[q]'(by omega)) (List.getElem?_eq_getElem (by omega))
              obtain ⟨bo, bc, rfl, hbr, hbl, hbm, hbn⟩ := hbs
              have hmo : okMode (l[q]'(by omega)).1 = true := (List.all_eq_true.1 HALL.out) _ (List.getElem_mem (by omega))
              have HMO := Lib.hid hmo
              have HC := Lib.hid (ctRes_ok (l[q]'(by omega)).1 k hmo hk)
              have hcb := cntB_bd (l[q]'(by omega)).1 k hk
              have hTT := total_take k l q (by omega)
              have HA : Hid (decide ((l[q]'(by omega)).2.length < 2 ^ cntB (l[q]'(by omega)).1 k) = false → R = (0, 4)) := fun h => by
                rw [HR.out]; exact bitsRes_4 hk HALL.out (by omega) (all_at _ l q (by omega) h)
              have HQ2 : Hid (decide ((l[q]'(by omega)).2.length < 2 ^ cntB (l[q]'(by omega)).1 k) = true → ((l.take (q + 1)).all fun p => decide (p.2.length < 2 ^ cntB p.1 k)) = true) := fun h =>
                all_take_succ _ l q (by omega) HQ.out h
              have HSB : Hid ((l[q]'(by omega)).2.length < 2 ^ cntB (l[q]'(by omega)).1 k → segB (l[q]'(by omega)).1 k (l[q]'(by omega)).2.length ≤ 1048576) := segB_bd _ k _ hk
              clear hmo
              have hpw := pow_cnt (cntB (l[q]'(by omega)).1 k) hcb.2
              have HTT := Lib.hid hTT
              rw [← HT.out] at HTT
              have HSG : Hid (segB (l[q]'(by omega)).1 k (l[q]'(by omega)).2.length = 4 + cntB (l[q]'(by omega)).1 k + dsize (l[q]'(by omega)).1 (l[q]'(by omega)).2.length) := rfl
              obtain ⟨n, hn⟩ : ∃ n, n = (l[q]'(by omega)).2.length := ⟨_, rfl⟩
              obtain ⟨m, hm'⟩ : ∃ m, m = (l[q]'(by omega)).1 := ⟨_, rfl⟩
              rw [← hn, ← hm'] at HA HQ2 HSB HTT HSG
              rw [← hn] at hc1 hbl
              rw [← hm'] at hc0 HMO HC hcb hpw
              clear hTT hn hm' hbr
              obtain ⟨B, hB⟩ : ∃ B, B = cntB m k := ⟨_, rfl⟩
              rw [← hB] at HA HQ2 HSB HC hcb hpw HSG
              clear hB
              obtain ⟨p, hp⟩ : ∃ p, p = 2 ^ B := ⟨_, rfl⟩
              rw [← hp] at HA HQ2 HSB hpw
              obtain ⟨hw2, hp65⟩ := hpw
              clear hp
              by_cases hnp : n < p
              · have HQ3 := Lib.hid (HQ2.out (by simpa using hnp))
                have hsb := HSB.out hnp
                clear HA HQ2 HSB
                go_wp2_with fail
                refine (countBits_any _ _ _).mono ?_
                rw [HC.out]
                rintro e w' ⟨rfl, rfl⟩
                simp only [two]
                go_wp2_with fail
                go_quiet (fail)
                have hds : dsize m n ≤ 1048576 := by have := HSG.out; omega
                obtain ⟨D, hD⟩ : ∃ D, D = dsize m n := ⟨_, rfl⟩
                have HD := Lib.hid hD
                rw [← hD] at hds HSG
                clear hD
                obtain ⟨W, hW⟩ : ∃ W : World, W = (wr.alloc (.cells #[.int .i64 m, .slice bo n bc] 33)).drewN nq := ⟨_, rfl⟩
                have z0 : W.cell? ⟨wr.heap.size, 0, none⟩ = some (.int .i64 m) := by rw [hW]; simp
                have z1 : W.cell? ⟨wr.heap.size, 1, none⟩ = some (.slice bo n bc) := by rw [hW]; simp
                have hxW : Ext w W := by rw [hW]; exact (hext.trans (Ext.alloc _ _)).drewN _
                rw [← hW]
                clear hW hc0 hc1 hext
                go_upto_region 18 with fail
                have s1 : IntKind.i64.wrap (4 + (B : Int)) = 4 + (B : Int) := IntWalk.i64_in _ (by omega)
                have s2 : IntKind.i64.wrap (4 + (B : Int) + (D : Int)) = 4 + (B : Int) + (D : Int) := IntWalk.i64_in _ (by omega)
                have s3 : IntKind.i64.wrap ((T : Int) + (4 + (B : Int) + (D : Int))) = (T : Int) + (4 + (B : Int) + (D : Int)) := IntWalk.i64_in _ (by omega)
                go_region_with (first
                  | (go_at_call 48; refine (packed_any m _ HMO.out).mono ?_; rintro e w3 ⟨rfl, hx3⟩; have z0b := hx3.cell ((Ext.drew _).cell z0); have z1b := hx3.cell ((Ext.drew _).cell z1))
                  | (go_at_call 49; refine (psize_any m n _ HMO.out (by omega)).mono ?_; rw [← HD.out]; rintro e w4 ⟨rfl, hx4⟩))
                all_goals
                  clear s1 s2 s3
                  go_wp2_with fail
                  go_roundw
                  case rel => exact ⟨q + 1, T + (4 + B + D), by omega, by have := HSG.out; omega, int_eq (by omega), int_eq (by omega), by show _ = _; rw [HTT.out, HSG.out], HQ3, hxW.trans ((Ext.drew _).trans (hx3.trans hx4))⟩
                  case measure => simp [intOf]; omega
              · have HA2 := Lib.hid (HA.out (by simpa using hnp))
                clear HA HQ2 HSB
                go_wp2_with fail
                refine (countBits_any _ _ _).mono ?_
                rw [HC.out]
                rintro e w' ⟨rfl, rfl⟩
                simp only [two]
                go_wp2_with fail
                go_quiet (fail)
                go_wp2_with fail
                go_ret2
                exact ⟨by rw [HA2.out]; rfl, (hext.trans (Ext.alloc _ _)).drewN _⟩
            · obtain rfl : q = j := by omega
              have htot : T = total k l := by have := HT.out; rwa [List.take_of_length_le (by omega)] at this
              have hlen : (l.all fun p => decide (p.2.length < 2 ^ cntB p.1 k)) = true := by have := HQ.out; rwa [List.take_of_length_le (by omega)] at this
              have HTOT := Lib.hid htot
              have HLEN := Lib.hid hlen
              clear htot hlen HT HQ
              go_wp2_with fail
              go_loopw [14, 16, 71] (fun _ _ i wx => ∃ r : Nat, r ≤ q ∧ i = .int .i64 r ∧ Hid (((l.take r).all fun p => p.2.all (fitsB p.1)) = true) ∧ Ext w wx) (fun _ _ i _ => q - (intOf i).toNat)
              case atStart => exact ⟨0, Nat.zero_le _, rfl, rfl, hext⟩
              case round =>
                clear hext
                obtain ⟨r, hrq, rfl, HF, hext⟩ := hrel
                by_cases hlt3 : r < q
                · obtain ⟨b, off, v, rfl, hc0, hc1, hbs⟩ := (hr.ext hext) r (l[r]'(by omega)) (List.getElem?_eq_getElem (by omega))
                  obtain ⟨bo, bc, rfl, hbr, hbl, hbm, hbn⟩ := hbs
                  have HA : Hid ((l[r]'(by omega)).2.all (fitsB (l[r]'(by omega)).1) = false → R = (0, 6)) := fun h => by
                    rw [HR.out]; exact bitsRes_5 hk HALL.out (by omega) HLEN.out (all_at (fun p : SegD => p.2.all (fitsB p.1)) l r (by omega) h)
                  have HF2 : Hid ((l[r]'(by omega)).2.all (fitsB (l[r]'(by omega)).1) = true → ((l.take (r + 1)).all fun p => p.2.all (fitsB p.1)) = true) := fun h =>
                    all_take_succ (fun p : SegD => p.2.all (fitsB p.1)) l r (by omega) HF.out h
                  obtain ⟨pr, hpr⟩ : ∃ pr, pr = (l[r]'(by omega)) := ⟨_, rfl⟩
                  rw [← hpr] at HA HF2 hc0 hc1 hbr hbl
                  clear hpr
                  obtain ⟨m, d⟩ := pr
                  simp only at HA HF2 hc0 hc1 hbr hbl
                  have hdb : d.length ≤ 9223372036854775807 := by omega
                  go_wp2_with fail
                  go_loop [16, 78] (fun _ i => ∃ t : Nat, t ≤ d.length ∧ i = .int .i64 t ∧ Hid ((d.take t).all (fitsB m) = true)) (fun _ i => d.length - (intOf i).toNat)
                  case atStart => exact ⟨0, Nat.zero_le _, rfl, rfl⟩
                  case round =>
                    obtain ⟨t, htd, rfl, HFT⟩ := hrel
                    by_cases hlt4 : t < d.length
                    · obtain ⟨a, rfl, hcb⟩ := (hbr.ext (Ext.alloc wr (.cells #[.int .i64 m, .slice bo d.length bc] 33))).at (byts_at d t hlt4)
                      cases hfi : fitsB m d[t]
                      · have HA2 := Lib.hid (HA.out (all_at (fitsB m) d t hlt4 hfi))
                        have HFI := Lib.hid hfi
                        clear hfi
                        go_wp2_with fail
                        refine (fits_any m d[t] _).mono ?_
                        rw [HFI.out]
                        rintro e w' ⟨rfl, rfl⟩
                        go_wp2_with fail
                        go_ret2
                        exact ⟨by rw [HA2.out]; rfl, hext.trans (Ext.alloc _ _)⟩
                      · have HFT2 := Lib.hid (all_take_succ (fitsB m) d t hlt4 HFT.out hfi)
                        have HFI := Lib.hid hfi
                        clear hfi
                        go_wp2_with fail
                        refine (fits_any m d[t] _).mono ?_
                        rw [HFI.out]
                        rintro e w' ⟨rfl, rfl⟩
                        go_wp2_with fail
                        go_round
                        case rel => exact ⟨t + 1, by omega, int_eq (by omega), HFT2⟩
                        case measure => simp [intOf]; omega
                    · have hd : d.all (fitsB m) = true := by have := HFT.out; rwa [List.take_of_length_le (by omega)] at this
                      have HF3 := Lib.hid (HF2.out hd)
                      clear hd
                      go_wp2_with fail
                      go_roundw
                      case rel => exact ⟨r + 1, by omega, int_eq (by omega), HF3, hext.trans (Ext.alloc _ _)⟩
                      case measure => simp [intOf]; omega
                · have hfit : (l.all fun p => p.2.all (fitsB p.1)) = true := by have := HF.out; rwa [List.take_of_length_le (by omega)] at this
                  have HRR : Hid (R = if 1048576 < T then (0, 4) else ((T : Int), 0)) := by show _ = _; rw [HR.out, bitsRes_6 hk HALL.out (by omega) HLEN.out hfit, ← HTOT.out]
                  clear hfit
                  by_cases hbig : 1048576 < T
                  · have HR2 : Hid (R = (0, 4)) := by show _ = _; rw [HRR.out, if_pos hbig]
                    go_wp2_with fail
                    go_ret2
                    exact ⟨by rw [HR2.out]; rfl, hext⟩
                  · have HR2 : Hid (R = ((T : Int), 0)) := by show _ = _; rw [HRR.out, if_neg hbig]
                    go_wp2_with fail
                    go_ret2
                    exact ⟨by rw [HR2.out]; rfl, hext⟩

end Go.Proofs.Ythebfpolijajgaa
