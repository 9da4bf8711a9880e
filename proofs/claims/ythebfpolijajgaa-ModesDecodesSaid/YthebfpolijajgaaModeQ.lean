/-
  The contract of the reference's Decode.
  Conditions: the slice's cells are those of the list.
-/
import Derived.Test.YthebfpolijajgaaModeP
namespace Go.Proofs.Ythebfpolijajgaa
open Go.RowKit Go.Bs Go.Mode

/-- All data lie in blocks that are there: no later number is one of theirs. -/
theorem SegCells.far {B : Nat} {w : World} {g g' : Nat} {v : Value} {cells : List Value} {l : List SegD} (h : SegCells B w g v cells l) (_ : g ≤ w.heap.size) (hg : w.heap.size ≤ g') : SegCells B w g' v cells l := by
  intro i p hi
  obtain ⟨u, h1, h2, ao, cap, h3, h4, h5, h6, h7, h8⟩ := h i p hi
  exact ⟨u, h1, h2, ao, cap, h3, h4, h5, h6, h7, fun a ha => ⟨by have := (h8 a ha).2.2.1; omega, (h8 a ha).2⟩⟩

set_option maxRecDepth 20000 in
set_option maxHeartbeats 3200000 in
theorem rdecode_any (ao : Option Addr) (len cap : Nat) (bs : List Bool) (c : Int) (w : World) (hl : bs.length = len) (hb : len ≤ 9223372036854775807) (hr : Row w ao (bools bs)) :
    Calls Try.prog 24 #[.slice ao len cap, .int .i64 c] w (RetSegs w (decRes bs c)) := by
  have HL := Lib.hid hl
  rcases class_cases c with hcc | ⟨hcc, hcc'⟩ | hcc
  · rw [show decRes bs c = ([], 1) from by unfold decRes; rw [if_pos (Or.inl hcc)]]
    clear hl
    go_enter Try.func24, Try.ntmps24
    go_wp2_with fail
    go_ret2
    exact RetSegs.nil _ _ _ (Ext.refl _)
  · rw [show decRes bs c = ([], 1) from by unfold decRes; rw [if_pos (Or.inr hcc')]]
    clear hl
    go_enter Try.func24, Try.ntmps24
    go_wp2_with fail
    go_ret2
    exact RetSegs.nil _ _ _ (Ext.refl _)
  · obtain ⟨k, rfl, hk⟩ : ∃ k : Nat, c = k ∧ k ≤ 2 := ⟨c.toNat, by omega, by omega⟩
    clear hcc
    by_cases hbig : 1048576 < len
    · rw [show decRes bs k = ([], 4) from by unfold decRes; rw [if_neg (by omega), if_pos (by omega)]]
      clear hl
      go_enter Try.func24, Try.ntmps24
      go_wp2_with fail
      go_ret2
      exact RetSegs.nil _ _ _ (Ext.refl _)
    · rw [show decRes bs k = decL k [] bs from by unfold decRes; rw [if_neg (by omega), if_neg (by omega)]; rfl]
      obtain ⟨R, hR⟩ : ∃ R, R = decL k [] bs := ⟨_, rfl⟩
      rw [← hR]
      have HR := Lib.hid hR
      have hlb : len ≤ 1048576 := by omega
      clear hR hl hbig
      go_enter Try.func24, Try.ntmps24
      go_wp2_with fail
      go_loopg [6, 7, 8, 9, 10, 11, 12, 13, 14, 15, 16, 17] (len + 1) (fun q v at' _ _ _ _ _ _ _ _ _ _ wr => ∃ (l : List SegD) (p : Nat) (cells : List Value), len - p < q ∧ p ≤ len ∧ at' = .int .i64 p ∧ l.length ≤ 4096 ∧ wr.ownsRow w.heap.size 33 2 v l.length cells ∧ Hid (SegCells w.heap.size wr wr.heap.size v cells l) ∧ Hid (decL k l (bs.drop p) = R) ∧ Hid (Keep w (.slice none 0 0) wr v))
      case atStart => exact ⟨[], 0, [], by omega, Nat.zero_le _, rfl, by simp, World.ownsRow_nil _ _ _ _, SegCells.nil _ _ _ _, HR.out.symm, Keep.refl _ _⟩
      case round =>
        obtain ⟨l, p, cells, hq, hp, rfl, hl4, hown, HSC, HDL, HKG⟩ := hrel
        have HXW := Lib.hid (HKG.out.toExt rfl)
        have HRW := Lib.hid (hr.ext HXW.out)
        obtain ⟨vo, vc, rfl⟩ : ∃ vo vc, u6 = .slice vo l.length vc := by
          rcases hown.2 with ⟨hv, hn⟩ | ⟨g', cap', cur', hv, _⟩
          · exact ⟨none, 0, by rw [hv, hn]⟩
          · exact ⟨_, _, hv⟩
        by_cases h4 : len - p < 4
        · have h4' : (len : Int) - (p : Int) < 4 := by omega
          have HLD : Hid ((bs.drop p).length < 4) := by show _ < _; rw [List.length_drop, HL.out]; exact h4
          go_wp2_with fail
          go_loop [7] (fun at' => ∃ s : Nat, p ≤ s ∧ s ≤ len ∧ at' = .int .i64 s ∧ Hid (∀ i (_ : p ≤ i) (_ : i < s) (h : i < bs.length), bs[i] = false)) (fun at' => len - (intOf at').toNat)
          case atStart => exact ⟨p, Nat.le_refl _, hp, rfl, fun i h1 h2 _ => by omega⟩
          case round =>
            obtain ⟨s, hps, hsl, rfl, HZ⟩ := hrel
            by_cases hlt : s < len
            · obtain ⟨a, rfl, hc⟩ := HRW.out.at (bools_at bs s (by rw [HL.out]; exact hlt))
              cases hx : bs[s]'(by rw [HL.out]; exact hlt)
              · rw [hx] at hc
                have HZ2 : Hid (∀ i (_ : p ≤ i) (_ : i < s + 1) (h : i < bs.length), bs[i] = false) := by
                  intro i h1 h2 h3
                  by_cases e : i = s
                  · subst e; exact hx
                  · exact HZ.out i h1 (by omega) h3
                clear hx
                go_wp2_with fail
                go_round
                case rel => exact ⟨s + 1, by omega, by omega, int_eq (by omega), HZ2⟩
                case measure => simp [intOf]; omega
              · have HR2 : Hid (R = ([], 22)) := by
                  show _ = _
                  rw [← HDL.out]
                  refine dl_2 HLD.out ?_
                  intro h0
                  have := (num_zero _).1 h0 (s - p) (by rw [List.length_drop, HL.out]; omega)
                  rw [List.getElem_drop] at this
                  simp only [show p + (s - p) = s by omega] at this
                  rw [this] at hx
                  cases hx
                rw [hx] at hc
                clear hx
                go_wp2_with fail
                go_ret2
                rw [HR2.out]
                exact RetSegs.nil _ _ _ HXW.out
            · have HR2 : Hid (R = (l, 0)) := by
                show _ = _
                rw [← HDL.out]
                refine dl_1 HLD.out ((num_zero _).2 ?_)
                intro i hi
                rw [List.length_drop] at hi
                rw [List.getElem_drop]
                exact HZ.out (p + i) (by omega) (by have := HL.out; omega) (by omega)
              go_wp2_with fail
              go_ret2
              rw [HR2.out]
              exact RetSegs.own hown (Nat.le_refl _) HSC.out HXW.out
        · have h4' : ¬ (len : Int) - (p : Int) < 4 := by omega
          have H4 : Hid (¬ (bs.drop p).length < 4) := by show ¬ _ < _; rw [List.length_drop, HL.out]; exact h4
          have HTK : Hid (takeRes bs p 4 = (num ((bs.drop p).take 4), 0)) := by show _ = _; rw [takeRes_3 (by rw [HL.out]; omega) (by rw [HL.out]; omega)]; rfl
          have hM : num ((bs.drop p).take 4) = (numN ((bs.drop p).take 4) : Int) := numN_num _
          obtain ⟨M, hM'⟩ : ∃ M, M = numN ((bs.drop p).take 4) := ⟨_, rfl⟩
          rw [← hM'] at hM
          have HM := Lib.hid hM
          rw [hM] at HTK
          have hM16 : M < 16 := by
            have h1 := numN_lt ((bs.drop p).take 4)
            rw [List.length_take, Nat.min_eq_left (by have := H4.out; omega), ← hM'] at h1
            omega
          clear hM hM' h4
          go_wp2_with fail
          refine (rtake_any ao len cap bs p 4 _ HL.out (by omega) HRW.out).mono ?_
          rw [HTK.out]
          rintro e w' ⟨rfl, rfl⟩
          simp only [two]
          by_cases hz : M = 0
          · have HRR : Hid (R = (l, 0)) := by show _ = _; rw [← HDL.out]; exact dl_3 H4.out (by rw [HM.out, hz]; rfl)
            subst hz
            go_wp2_with fail
            go_ret2
            rw [HRR.out]
            exact RetSegs.own hown (Nat.le_refl _) HSC.out HXW.out
          · have hz' : ((M : Int) == 0) = false := by simp [hz]
            have HZ : Hid (num ((bs.drop p).take 4) ≠ 0) := by show _ ≠ _; rw [HM.out]; omega
            clear hz
            cases hok : okMode (M : Int)
            · have HRR : Hid (R = ([], 22)) := by show _ = _; rw [← HDL.out]; exact dl_4 H4.out HZ.out (by rw [HM.out]; exact hok)
              have HOK := Lib.hid hok
              clear hok
              go_wp2_with fail
              refine (rknown_any _ _).mono ?_
              rw [HOK.out]
              rintro e w' ⟨rfl, rfl⟩
              go_wp2_with fail
              go_ret2
              rw [HRR.out]
              exact RetSegs.nil _ _ _ HXW.out
            · have HOK := Lib.hid hok
              have HOKM : Hid (okMode (num ((bs.drop p).take 4)) = true) := by show _ = _; rw [HM.out]; exact hok
              clear hok
              by_cases hl5 : l.length = 4096
              · have HRR : Hid (R = ([], 4)) := by show _ = _; rw [← HDL.out]; exact dl_5 H4.out HZ.out HOKM.out (by omega)
                have hl5' : ((l.length : Int) == 4096) = true := by simp; omega
                clear hl5
                go_wp2_with fail
                refine (rknown_any _ _).mono ?_
                rw [HOK.out]
                rintro e w' ⟨rfl, rfl⟩
                go_wp2_with fail
                go_ret2
                rw [HRR.out]
                exact RetSegs.nil _ _ _ HXW.out
              · have hl5' : ((l.length : Int) == 4096) = false := by simp; omega
                have hll : l.length < 4096 := by omega
                have HC := Lib.hid (ctRes_ok (M : Int) k HOK.out hk)
                have hcb := cntB_bd (M : Int) k hk
                obtain ⟨hrs1, hrs2⟩ := read_seg (M : Int) k bs (p + 4) (by rw [HL.out]; omega)
                rw [← List.drop_drop] at hrs1 hrs2
                have HR1 := Lib.hid hrs1
                have HR2 := Lib.hid hrs2
                clear hrs1 hrs2 hl5
                obtain ⟨C, hC⟩ : ∃ C, C = cntB (M : Int) k := ⟨_, rfl⟩
                rw [← hC] at HC hcb HR1 HR2
                clear hC
                go_wp2_with fail
                refine (rknown_any _ _).mono ?_
                rw [HOK.out]
                rintro e w' ⟨rfl, rfl⟩
                go_wp2_with fail
                refine (rcountBits_any _ _ _).mono ?_
                rw [HC.out]
                rintro e w' ⟨rfl, rfl⟩
                simp only [two]
                by_cases hcl : len < p + 4 + C
                · have HTC : Hid (takeRes bs ((p : Int) + 4) C = (0, 10)) := by show _ = _; rw [takeRes_2 (by rw [HL.out]; omega) (by rw [HL.out]; omega)]
                  have HRR : Hid (R = ([], 10)) := by show _ = _; rw [← HDL.out]; exact dl_6 H4.out HZ.out HOKM.out (by omega) (by rw [HM.out]; exact HR1.out (by rw [HL.out]; exact hcl)) (by decide)
                  go_wp2_with fail
                  refine (rtake_any ao len cap bs _ C _ HL.out (by omega) HRW.out).mono ?_
                  rw [HTC.out]
                  rintro e w' ⟨rfl, rfl⟩
                  simp only [two]
                  go_wp2_with fail
                  go_ret2
                  rw [HRR.out]
                  exact RetSegs.nil _ _ _ HXW.out
                · have HTC : Hid (takeRes bs ((p : Int) + 4) C = (num (((bs.drop p).drop 4).take C), 0)) := by
                    show _ = _
                    rw [takeRes_3 (by rw [HL.out]; omega) (by rw [HL.out]; omega), List.drop_drop, show ((p : Int) + 4).toNat = p + 4 by omega]
                    rfl
                  have hnlt : numN (((bs.drop p).drop 4).take C) < 2 ^ C := by
                    have h1 := numN_lt (((bs.drop p).drop 4).take C)
                    rwa [List.length_take, Nat.min_eq_left (by rw [List.length_drop, List.length_drop, HL.out]; omega)] at h1
                  have hpw := (pow_cnt C hcb.2).2
                  rw [numN_num] at HTC
                  have HR3 := Lib.hid (HR2.out (by rw [HL.out]; omega))
                  obtain ⟨n, hn⟩ : ∃ n, n = numN (((bs.drop p).drop 4).take C) := ⟨_, rfl⟩
                  rw [← hn] at HTC hnlt HR3
                  have hn65 : n < 65536 := by omega
                  clear hn hnlt hpw HR1 HR2
                  have HSE := Lib.hid (segment_any (M : Int) HOK.out ao len cap bs (p + 4 + C) n wr HL.out hlb (by omega) hn65 HRW.out)
                  obtain ⟨d, Q, E, hse⟩ : ∃ d Q E, segRes (M : Int) bs (p + 4 + C) n = (d, Q, E) := ⟨_, _, _, rfl⟩
                  rw [hse] at HSE HR3
                  obtain ⟨dr, Er, rest, hrr⟩ : ∃ dr Er rest, readRes (M : Int) k ((bs.drop p).drop 4) = (dr, Er, rest) := ⟨_, _, _, rfl⟩
                  rw [hrr] at HR3
                  obtain ⟨e1, e2, e3⟩ := HR3.out
                  simp only at e1 e2 e3
                  subst e1 e2
                  have HRS : Hid (readRes (num ((bs.drop p).take 4)) k ((bs.drop p).drop 4) = (dr, Er, rest)) := by show _ = _; rw [HM.out]; exact hrr
                  have HE3 := Lib.hid e3
                  obtain ⟨P2, hP2⟩ : ∃ P2, P2 = p + 4 + C := ⟨_, rfl⟩
                  have hcast : ((p : Int) + 4 + (C : Int)) = (P2 : Int) := by omega
                  rw [← hP2] at HSE
                  have hP2l : P2 ≤ len := by omega
                  clear hse hrr e3 HR3 hP2
                  go_wp2_with fail
                  refine (rtake_any ao len cap bs _ C _ HL.out (by omega) HRW.out).mono ?_
                  rw [HTC.out]
                  rintro e w' ⟨rfl, rfl⟩
                  simp only [two]
                  go_wp2_with fail
                  refine HSE.out.mono ?_
                  rintro e w3 ⟨s3, rfl, hown3, hx3⟩
                  simp only at hown3 ⊢
                  have HX3 := Lib.hid (HXW.out.trans hx3)
                  obtain ⟨so3, sc3, rfl, hso3, hsm3, _, hsr3⟩ := own_row hown3
                  by_cases hE : Er = 0
                  case neg =>
                    have HRR : Hid (R = ([], Er)) := by show _ = _; rw [← HDL.out]; exact dl_6 H4.out HZ.out HOKM.out (by omega) HRS.out hE
                    have hE' : (Er != 0) = true := by simp [hE]
                    clear hE hown3 hsr3
                    go_wp2_with fail
                    go_ret2
                    rw [HRR.out]
                    exact RetSegs.nil _ _ _ HX3.out
                  case pos =>
                    subst hE
                    obtain ⟨q2, rfl, hq2l, hpq2, hrest⟩ := HE3.out rfl
                    rw [HL.out] at hq2l
                    have HDL2 : Hid (decL k (l ++ [((M : Int), dr)]) (bs.drop q2) = R) := by show _ = _; rw [← HDL.out, dl_7 H4.out HZ.out HOKM.out (by omega) HRS.out, HM.out, hrest]
                    have hown2 := own_extN hown hx3
                    have HDA : Hid (DatA w.heap.size w3 w3.heap.size (.slice vo l.length vc) (.slice so3 dr.length sc3) dr) := by
                      refine ⟨so3, sc3, rfl, hsr3, hso3, by unfold maxLen at hsm3; omega, own_nil' hown3, ?_⟩
                      intro a ha
                      subst ha
                      have h1 := hown3.lt a.block rfl
                      refine ⟨by omega, ?_, h1.2, Nat.le_trans HXW.out.size h1.1⟩
                      intro e
                      have := (hown.lt a.block e).2
                      omega
                    have HSC3 : Hid (SegCells w.heap.size w3 w3.heap.size (.slice vo l.length vc) cells l) := (HSC.out.keep (KeepG.ofExt hx3 _)).far (Below.size hx3) (Nat.le_refl _)
                    have hB3 := HX3.out.size
                    clear hown3 hsr3 hrest hcl
                    go_wp2_with (at_builtin; refine wpList_pushK rfl _ _ 25 rfl w.heap.size 33 (.agg #[.int .i64 0, .slice none 0 0]) 2 32 Try.infoSeg rfl (by decide) Try.underlying25 _ rfl _ _ hown2 [.int .i64 (M : Int), .slice so3 dr.length sc3] rfl rfl (by simp [Value.oneCell']) (by omega) (by omega) hB3 ?_; intro s4 w4 hown4 hk4)
                    have HC2 : Hid (cells.length = l.length * 2) := hown2.1
                    have HSC4 : Hid (SegCells w.heap.size w4 w4.heap.size s4 (cells ++ [.int .i64 (M : Int), .slice so3 dr.length sc3]) (l ++ [((M : Int), dr)])) := ((HSC3.out.snoc (m := (M : Int)) HC2.out HDA.out).keep (KeepG.ofKeep hk4)).far hk4.size (Nat.le_refl _)
                    have HKG4 : Hid (Keep w (.slice none 0 0) w4 s4) := HKG.out.trans ((Keep.ofExt hx3 _).trans hk4)
                    have hown4' : w4.ownsRow w.heap.size 33 2 s4 (l ++ [((M : Int), dr)]).length (cells ++ [.int .i64 (M : Int), .slice so3 dr.length sc3]) := by
                      rw [List.length_append]; exact hown4
                    clear hown4 hk4 hown2 HDA HSC3
                    go_roundg (gk - 1)
                    case rel => exact ⟨l ++ [((M : Int), dr)], q2, _, by omega, hq2l, rfl, by rw [List.length_append]; simp; omega, hown4', HSC4, HDL2, HKG4⟩
                    case measure => omega

end Go.Proofs.Ythebfpolijajgaa
