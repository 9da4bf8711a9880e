/-
  The contract of the reference's Pad.
  Conditions: the slice's cells are those of the list.
-/
import Derived.Test.YtbfcgggcdmafoaaQrB
import Derived.Test.YtbfcgggcdmafoaaQrC
namespace Go.Proofs.Ytbfcgggcdmafoaa
open Go.RowKit Go.Bs Go.Mode Go.Qr

theorem rep_succ (xs : List Bool) (i : Nat) : xs ++ List.replicate i false ++ [false] = xs ++ List.replicate (i + 1) false := by rw [List.replicate_succ', List.append_assoc]

set_option maxRecDepth 20000 in
set_option maxHeartbeats 1600000 in
theorem rpad_any (ao : Option Addr) (len cap : Nat) (xs : List Bool) (n : Int) (w : World) (hl : xs.length = len) (hcap : len ≤ cap) (hmax : cap ≤ 9223372036854775807) (hno : ao = none → cap = 0) (hr : Row w ao (bools xs)) :
    Calls Try.prog 14 #[.slice ao len cap, .int .i64 n] w (RetSl w (ints (padRes xs n).1, (padRes xs n).2)) := by
  have hcase : n < 0 ∨ (0 ≤ n ∧ 4096 < n) ∨ ∃ K : Nat, n = K ∧ K ≤ 4096 := by
    by_cases h : n < 0
    · exact Or.inl h
    · by_cases h2 : 4096 < n
      · exact Or.inr (Or.inl ⟨by omega, h2⟩)
      · exact Or.inr (Or.inr ⟨n.toNat, by omega, by omega⟩)
  have HL := Lib.hid hl
  rcases hcase with h | ⟨h, h'⟩ | ⟨K, rfl, hK⟩
  · rw [padRes_1 (Or.inl h)]
    clear hl
    go_enter Try.func14, Try.ntmps14
    go_wp2_with fail
    go_ret2
    exact RetSl.nil _ _ _ (Ext.refl _)
  · rw [padRes_1 (Or.inr h')]
    clear hl
    go_enter Try.func14, Try.ntmps14
    go_wp2_with fail
    go_ret2
    exact RetSl.nil _ _ _ (Ext.refl _)
  · by_cases hbig : 8 * K < len
    · rw [padRes_2 hK (by omega)]
      clear hl
      go_enter Try.func14, Try.ntmps14
      go_wp2_with fail
      go_ret2
      exact RetSl.nil _ _ _ (Ext.refl _)
    · rw [padRes_3 hK (by omega)]
      clear hl
      have hle : len ≤ 8 * K := by omega
      have HO0 : Hid ((w.alloc (.cells #[] 4)).ownsRow w.heap.size 4 1 (.slice (some ⟨w.heap.size, 0, none⟩) 0 0) 0 []) := World.ownsRow_lit w #[] 0 (Nat.le_refl _) (by decide) rfl
      have HR0 : Hid (Row (w.alloc (.cells #[] 4)) ao (bools xs)) := hr.ext (Ext.alloc _ _)
      obtain ⟨T1, hT1⟩ : ∃ T1, T1 = Qr.t1 len K := ⟨_, rfl⟩
      obtain ⟨T2, hT2⟩ : ∃ T2, T2 = Qr.t2 len K := ⟨_, rfl⟩
      obtain ⟨Z, hZ⟩ : ∃ Z, Z = Qr.nb len K := ⟨_, rfl⟩
      have h8 := body8 len K hle
      rw [← hT1, ← hT2, ← hZ] at h8
      have hT1' : T1 = min 4 (8 * K - len) := hT1
      have HBD : Hid (xs ++ List.replicate T1 false ++ List.replicate T2 false = body xs K) := by show _ = _; unfold body; rw [HL.out, ← hT1, ← hT2]
      have HPW : Hid (padW xs K = (List.range Z).map (chunk (body xs K)) ++ (List.range (K - Z)).map padNum) := by show _ = _; unfold padW; rw [HL.out, ← hZ]
      have HT1 := Lib.hid hT1'
      have HT2 := Lib.hid (show T2 = (8 * K - (len + T1)) % 8 from by rw [hT2, Qr.t2, ← hT1])
      have H8 := Lib.hid h8.1
      have hZK := h8.2
      have hT1b : len + T1 ≤ 8 * K := by omega
      have hT14 : T1 ≤ 4 := by omega
      have hT28 : T2 < 8 := by have := HT2.out; omega
      clear hT1 hT2 hZ h8 hT1' hbig
      go_enter Try.func14, Try.ntmps14
      go_wp2_with (at_builtin; refine wpList_app rfl _ _ 24 rfl w.heap.size 4 (.bool false) 1 1 Try.infoBool rfl (by decide) Try.underlying24 _ rfl 0 _ HO0.out _ len cap rfl (bools xs) HR0.out (by rw [length_bools, HL.out]; omega) hno (bools_oneCell _) (by omega) (by omega) (Ext.alloc w _).size ?_; intro s1 w1 hown1 hk1)
      rw [Nat.zero_add, List.nil_append] at hown1
      have HX1 : Hid (Ext w w1) := Below.trans (Ext.alloc w (.cells #[] 4)) (hk1.below (Ext.alloc w _).size (fun k hk => (HO0.out.lt k hk).1))
      clear hk1
      go_loopw [6, 7] (fun s i wr => ∃ j : Nat, j ≤ T1 ∧ i = .int .i64 j ∧ wr.ownsRow w.heap.size 4 1 s (len + j) (bools (xs ++ List.replicate j false)) ∧ Hid (Ext w wr)) (fun _ i _ => 4 - (intOf i).toNat)
      case atStart => exact ⟨0, Nat.zero_le _, rfl, by simpa using hown1, HX1⟩
      case round =>
        clear hown1 HX1
        obtain ⟨j, hj, rfl, hown, HX⟩ := hrel
        obtain ⟨so, sc, rfl, hsn, hsm, _, hsr⟩ := own_row hown
        by_cases hlt : j < T1
        · have h4 : j < 4 := by omega
          have hlk : len + j < 8 * K := by omega
          go_wp2_with (at_builtin; refine wpList_pushK rfl _ _ 24 rfl w.heap.size 4 (.bool false) 1 1 Try.infoBool rfl (by decide) Try.underlying24 _ rfl _ _ hown [.bool false] rfl rfl (by simp [Value.oneCell']) (by omega) (by omega) HX.out.size ?_; intro s2 w2 hown2 hk2)
          have hown3 : w2.ownsRow w.heap.size 4 1 s2 (len + (j + 1)) (bools (xs ++ List.replicate (j + 1) false)) := by
            rw [← rep_succ, bools_append, ← Nat.add_assoc]; exact hown2
          have HX2 : Hid (Ext w w2) := Below.trans HX.out (hk2.below HX.out.size (fun k hk => (hown.lt k hk).1))
          clear hown2 hk2
          go_roundw
          case rel => exact ⟨j + 1, by omega, int_eq (by omega), hown3, HX2⟩
          case measure => simp [intOf]; omega
        · obtain rfl : j = T1 := by omega
          have hstop : 4 ≤ j ∨ (j < 4 ∧ 8 * K ≤ len + j) := by have := HT1.out; omega
          have HO := Lib.hid hown
          clear hown hsr
          rcases hstop with hst | ⟨hst, hst'⟩
          all_goals
            go_wp2_with fail
            go_loopg [6] T2 (fun k s wr => ∃ i : Nat, i + k = T2 ∧ wr.ownsRow w.heap.size 4 1 s (len + j + i) (bools (xs ++ List.replicate j false ++ List.replicate i false)) ∧ Hid (Ext w wr))
            case atStart => exact ⟨0, by omega, by simpa using HO.out, HX⟩
            case round =>
              clear HO HX hsn hsm
              obtain ⟨i, hi, hown, HX⟩ := hrel
              obtain ⟨so, sc, rfl, hsn, hsm, _, hsr⟩ := own_row hown
              by_cases hlt2 : i < T2
              · have hrem : (((len : Int) + (j : Int) + (i : Int)) % 8 != 0) = true := by
                  have := H8.out
                  simp
                  omega
                clear hsr
                go_wp2_with (at_builtin; refine wpList_pushK rfl _ _ 24 rfl w.heap.size 4 (.bool false) 1 1 Try.infoBool rfl (by decide) Try.underlying24 _ rfl _ _ hown [.bool false] rfl rfl (by simp [Value.oneCell']) (by omega) (by omega) HX.out.size ?_; intro s2 w2 hown2 hk2)
                have hown3 : w2.ownsRow w.heap.size 4 1 s2 (len + j + (i + 1)) (bools (xs ++ List.replicate j false ++ List.replicate (i + 1) false)) := by
                  rw [← rep_succ, bools_append, ← Nat.add_assoc]; exact hown2
                have HX2 : Hid (Ext w w2) := Below.trans HX.out (hk2.below HX.out.size (fun k hk => (hown.lt k hk).1))
                clear hown2 hk2
                go_roundg (gk - 1)
                case rel => exact ⟨i + 1, by omega, hown3, HX2⟩
                case measure => omega
              · obtain rfl : i = T2 := by omega
                rw [HBD.out] at hsr
                have e8 : len + j + i = 8 * Z := H8.out
                rw [e8] at hsn ⊢
                have hrem : ((8 * (Z : Int)) % 8 != 0) = false := by simp
                have HSR := Lib.hid hsr
                have HLB : Hid ((body xs K).length = 8 * Z) := by show _ = _; rw [← HBD.out]; simp only [List.length_append, List.length_replicate, HL.out]; exact H8.out
                clear hown hsr e8 HBD
                go_wp2_with fail
                go_loopw [8, 9] (fun s i wx => ∃ k : Nat, k ≤ Z ∧ i = .int .i64 (8 * (k : Int)) ∧ wx.ownsRow wr.heap.size 3 1 s k (ints ((List.range k).map (chunk (body xs K)))) ∧ Hid (Ext wr wx)) (fun _ i _ => 8 * Z - (intOf i).toNat)
                case atStart => exact ⟨0, Nat.zero_le _, rfl, World.ownsRow_nil _ _ _ _, Ext.refl _⟩
                case round =>
                  obtain ⟨k, hk, rfl, hown, HXX⟩ := hrel
                  by_cases hlt3 : k < Z
                  · have HRC : ∀ ao', ao' = so.map (·.add (8 * k)) → Hid (Row wr ao' (bools (((body xs K).drop (k * 8)).take 8))) := by
                      intro ao' h
                      show Row _ _ _
                      rw [bools_cut]
                      exact (HSR.out.ext HXX.out).cut _ _ (fun _ _ => by rw [h, Nat.mul_comm])
                    have HLC : Hid ((((body xs K).drop (k * 8)).take 8).length = 8) := by show _ = _; simp only [List.length_take, List.length_drop, HLB.out]; omega
                    have HCH : Hid (chunk (body xs K) k = num (((body xs K).drop (k * 8)).take 8)) := rfl
                    have hwz := HXX.out.size
                    go_wp2_with fail
                    refine (rvalue_any _ 8 _ _ wr HLC.out (by omega) (HRC _ rfl).out).mono ?_
                    rw [← HCH.out]
                    rintro e w' ⟨rfl, rfl⟩
                    go_wp2_with (at_builtin; refine wpList_pushK rfl _ _ 31 rfl _ 3 (.int .i64 0) 1 8 Try.infoInt rfl (by decide) Try.underlying31 _ rfl _ _ hown [.int .i64 (chunk (body xs K) k)] rfl rfl (by simp [Value.oneCell']) (by omega) (by omega) hwz ?_; intro s2 w2 hown2 hk2)
                    have hown3 := hown2
                    rw [show ints ((List.range k).map (chunk (body xs K))) ++ [.int .i64 (chunk (body xs K) k)] = ints ((List.range (k + 1)).map (chunk (body xs K))) from by simp [List.range_succ, ints]] at hown3
                    have HX2 : Hid (Ext _ w2) := Below.trans HXX.out (hk2.below hwz (fun k hk => (hown.lt k hk).1))
                    clear hown2 hk2
                    go_roundw
                    case rel => exact ⟨k + 1, by omega, int_eq (by omega), hown3, HX2⟩
                    case measure => simp [intOf]; omega
                  · obtain rfl : k = Z := by omega
                    have HO3 := Lib.hid hown
                    have HXL := Lib.hid (HX.out.trans HXX.out)
                    have HB9 := Lib.hid (Nat.le_trans HX.out.size (Nat.le_refl _))
                    have HOB := Lib.hid (own_base hown HX.out.size)
                    clear hown HO3
                    go_wp2_with fail
                    go_loopg [8, 10] (K - k) (fun q s p wx => ∃ j : Nat, j + q = K - k ∧ p = .int .i64 (padNum j) ∧ wx.ownsRow w.heap.size 3 1 s (k + j) (ints ((List.range k).map (chunk (body xs K)) ++ (List.range j).map padNum)) ∧ Hid (Ext w wx))
                    case atStart => exact ⟨0, by omega, rfl, by simpa using HOB.out, HXL⟩
                    case round =>
                      obtain ⟨j2, hj2, rfl, hown, HXW⟩ := hrel
                      obtain ⟨ro, rc, rfl, hrn, hrm, _, _⟩ := own_row hown
                      by_cases hlt4 : j2 < K - k
                      · have hpb := padNum_bd j2
                        have HPS := Lib.hid (padNum_succ j2)
                        have HPL : Hid (ints ((List.range k).map (chunk (body xs K)) ++ (List.range j2).map padNum) ++ [.int .i64 (padNum j2)] = ints ((List.range k).map (chunk (body xs K)) ++ (List.range (j2 + 1)).map padNum)) := by
                          show _ = _; simp [List.range_succ, ints]
                        obtain ⟨PN, hPN⟩ : ∃ PN, PN = padNum j2 := ⟨_, rfl⟩
                        rw [← hPN] at hpb HPS HPL ⊢
                        clear hPN
                        have hwz := HXW.out.size
                        go_wp2_with (at_builtin; refine wpList_pushK rfl _ _ 31 rfl _ 3 (.int .i64 0) 1 8 Try.infoInt rfl (by decide) Try.underlying31 _ rfl _ _ hown [.int .i64 PN] rfl rfl (by simp [Value.oneCell']) (by omega) (by omega) hwz ?_; intro s2 w2 hown2 hk2)
                        rw [HPL.out] at hown2
                        have HX2 : Hid (Ext w w2) := Below.trans HXW.out (hk2.below hwz (fun k hk => (hown.lt k hk).1))
                        clear hk2
                        go_roundg (gk - 1)
                        case rel => exact ⟨j2 + 1, by omega, int_eq (by rw [HPS.out]), by rw [← Nat.add_assoc]; exact hown2, HX2⟩
                        case measure => omega
                      · obtain rfl : j2 = K - k := by omega
                        rw [← HPW.out] at hown
                        go_wp2_with fail
                        go_ret2
                        exact RetSl.own hown HXW.out

end Go.Proofs.Ytbfcgggcdmafoaa
