/-
  For every input BitsMetric returns true, and each argument reads afterwards as it read before (Rows.BitsMetricSaid).
  No condition.
-/
import Derived.Test.YtkkfldnkenbplaaLawBase
import Derived.Test.YtkkfldnkenbplaaBitsLaws
import Derived.BigRegion
namespace Go.Proofs.Ytkkfldnkenbplaa
open Go.RowKit Go.Bs Go.ChangeShapes Go.WideShapes Go.ChangeAt Go.Joins

theorem distRes_ok {xs ys : List Bool} (h : xs.length = ys.length) : distRes xs ys = (cnt (diffs xs ys), 0) := by unfold distRes; rw [if_pos h]

theorem own_none {w : World} {B : Nat} {e : TypeId} {ao : Option Addr} {n m cap : Nat} {xs : List Value} (h : w.ownsRow B e 1 (.slice ao n cap) m xs) : ao = none → cap = 0 := by
  intro ha
  subst ha
  rcases h.2 with ⟨hv, _⟩ | ⟨g, cap', cur, hv, _⟩
  · simp at hv; exact hv.2
  · simp at hv

set_option maxRecDepth 20000 in
set_option maxHeartbeats 2000000 in
theorem bitsMetric_walk (ao : Option Addr) (len cap : Nat) (xs : List Bool) (bo : Option Addr) (lb cb : Nat) (l : List Int) (co : Option Addr) (lc cc : Nat) (m : List Int) (w : World)
    (hl : xs.length = len) (_ : len ≤ cap) (_ : cap ≤ 9223372036854775807) (hn0 : ao = none → cap = 0) (hr : Row w ao (bools xs))
    (hl2 : l.length = lb) (_ : lb ≤ cb) (_ : cb ≤ 9223372036854775807) (_ : bo = none → cb = 0) (hr2 : Row w bo (ints l)) (_ : ∀ n ∈ l, -9223372036854775808 ≤ n ∧ n ≤ 9223372036854775807)
    (hl3 : m.length = lc) (_ : lc ≤ cc) (_ : cc ≤ 9223372036854775807) (_ : co = none → cc = 0) (hr3 : Row w co (ints m)) (_ : ∀ n ∈ m, -9223372036854775808 ≤ n ∧ n ≤ 9223372036854775807) :
    Calls Try.prog 9 #[.slice ao len cap, .slice bo lb cb, .slice co lc cc] w fun e w' => e = .returned (.bool true) ∧ Ext w w' := by
  have HL := Lib.hid hl
  have HL2 := Lib.hid hl2
  have HL3 := Lib.hid hl3
  clear hl hl2 hl3
  go_enter Try.func9, Try.ntmps9
  by_cases hbig : 500 < len ∨ 500 < lb ∨ 500 < lc
  · rcases hbig with h | h | h
    all_goals
      go_wp2_with (go_at_call 12; refine (alive_any _).mono ?_; rintro e w1 ⟨rfl, hx⟩)
      all_goals
        go_ret
        exact ⟨rfl, by assumption⟩
  · have hs1 : len ≤ 500 := by omega
    have hs2 : lb ≤ 500 := by omega
    have hs3 : lc ≤ 500 := by omega
    clear hbig
    have hx0 := Ext.alloc w (.cells #[] 4)
    have hown0 := World.ownsRow_lit (base := w.heap.size) (e := 4) (size := 1) w #[] 0 (Nat.le_refl _) (Nat.zero_le _) rfl
    go_wp2_with ((with_reducible show wpList _ _ _ (⟨some 37, _, _, _, _, _⟩ :: _) _ _); refine wpList_pushAll (ws := w) rfl _ _ 22 rfl w.heap.size 4 (.bool false) 1 Try.infoBool rfl Try.underlying22 _ rfl 0 [] hown0 _ _ _ rfl (bools xs) (hr.ext hx0) (by rw [length_bools]; exact HL.out) hn0 (bools_oneCell _) (by omega) (by omega) hx0 hx0.size ?_)
    intro s1 w1 hown1 hb1 _
    clear hown0
    try simp only [Nat.zero_add, List.nil_append] at hown1
    have hx1 := Ext.alloc w1 (.cells #[] 4)
    have hown0 := World.ownsRow_lit (base := w1.heap.size) (e := 4) (size := 1) w1 #[] 0 (Nat.le_refl _) (Nat.zero_le _) rfl
    have hra := hr.ext (Ext.below hb1 hb1.size hx1)
    go_wp2_with ((with_reducible show wpList _ _ _ (⟨some 40, _, _, _, _, _⟩ :: _) _ _); refine wpList_pushAll (ws := w1) rfl _ _ 22 rfl w1.heap.size 4 (.bool false) 1 Try.infoBool rfl Try.underlying22 _ rfl 0 [] hown0 _ _ _ rfl (bools xs) hra (by rw [length_bools]; exact HL.out) hn0 (bools_oneCell _) (by omega) (by omega) hx1 hx1.size ?_)
    intro s2 w2 hown2 hb2 _
    clear hown0 hra
    try simp only [Nat.zero_add, List.nil_append] at hown2
    obtain ⟨ao1, cap1, rfl, h11, h12, h13, _⟩ := own_row hown1
    obtain ⟨ao2, cap2, rfl, h21, h22, h23, _⟩ := own_row hown2
    have hx2 : Ext w1 w2 := hb2
    have hown1' : w2.ownsRow w.heap.size 4 1 (.slice ao1 len cap1) len (bools xs) := hown1.kept (row := none) ⟨hx2.os, hx2.tape, hx2.output, hx2.size, fun k hk _ => hx2.block k hk⟩ (by cases hq : (Value.slice ao1 len cap1).ownBlock <;> simp)
    have hblk1 : ∀ k, (Value.slice ao1 len cap1).ownBlock = some k → w.heap.size ≤ k ∧ k < w1.heap.size := hown1.lt
    have hblk2 : ∀ k, (Value.slice ao2 len cap2).ownBlock = some k → w1.heap.size ≤ k ∧ k < w2.heap.size := hown2.lt
    have hz1 := hb1.size
    have hb02 := Ext.below hb1 hb1.size hx2
    clear hown1 hb1 hb2
    go_wp2_with fail
    go_loopw [9, 43] (fun _ i wr => ∃ (k : Nat) (cs : List Bool), k ≤ lb ∧ i = .int .i64 k ∧ Hid (cs.length = len) ∧ Hid (cnt (diffs xs cs) ≤ k) ∧ wr.ownsRow w.heap.size 4 1 (.slice ao1 len cap1) len (bools cs) ∧ wr.ownsRow w1.heap.size 4 1 (.slice ao2 len cap2) len (bools xs) ∧ Below w.heap.size w wr)
       (fun _ i _ => lb - (intOf i).toNat)
    case atStart => exact ⟨0, xs, Nat.zero_le _, rfl, HL, by show _ ≤ _; rw [dist_self]; omega, hown1', hown2, hb02⟩
    case round =>
      clear hown1' hown2 hb02
      obtain ⟨k, cs, hk, rfl, HC, HD, hown1, hown2, hbel⟩ := hrel
      by_cases hlt : k < lb
      · obtain ⟨b, rfl, hcb⟩ := (hr2.ext hbel).at (Go.Bs.ints_at l k (by rw [HL2.out]; exact hlt))
        obtain ⟨n, hn⟩ : ∃ n, n = l[k]'(by rw [HL2.out]; exact hlt) := ⟨_, rfl⟩
        rw [← hn] at hcb
        clear hn
        by_cases hin : 0 ≤ n ∧ n < len
        · obtain ⟨q, rfl⟩ := Int.eq_ofNat_of_zero_le hin.1
          have hq : q < len := by omega
          clear hin
          rcases hown1.2 with ⟨hv, hv'⟩ | ⟨gc, cap', cur, hv, _⟩
          · exfalso; omega
          cases hv
          have hgc := hblk1 gc rfl
          have hqc : q < cs.length := by rw [HC.out]; exact hq
          obtain ⟨hc, hf⟩ := own_cell hown1 q _ (bools_at cs q hqc)
          have hqi : (q : Int) < (len : Int) := by omega
          go_wp2_with fail
          go_region
          go_wp2_with fail
          go_roundw
          case rel =>
            refine ⟨k + 1, cs.set q (!cs[q]), by omega, by go_num, ?_, ?_, ?_, ?_, (hbel.setCell hgc.1 _).drew⟩
            · show _ = _; rw [List.length_set]; exact HC.out
            · show _ ≤ _; have := dist_flip xs cs q hqc; have := HD.out; omega
            · have := (hown1.stored q (.bool (!cs[q]))).1
              rw [show (bools cs).set q (.bool (!cs[q])) = bools (cs.set q (!cs[q])) by simp [bools, List.map_set]] at this
              exact this.drew
            · exact (ownsRow_setCell_below hown2 (a := ⟨gc, q, none⟩) hgc.2 _).drew
          case measure => simp [intOf]; omega
        · have HD2 : Hid (cnt (diffs xs cs) ≤ ((k + 1 : Nat) : Int)) := by show _ ≤ _; have := HD.out; omega
          rcases (show n < 0 ∨ (0 ≤ n ∧ (len : Int) ≤ n) by omega) with h | ⟨h, h'⟩
          all_goals
            clear hin
            go_wp2_with fail
            go_roundw
            case rel => exact ⟨k + 1, cs, by omega, by go_num, HC, HD2, hown1, hown2, hbel⟩
            case measure => simp [intOf]; omega
      · obtain rfl : k = lb := by omega
        go_wp2_with fail
        obtain ⟨wo, rfl⟩ : ∃ wo : World, wo = wr := ⟨_, rfl⟩
        go_loopw [10, 77] (fun _ i wr => ∃ (j : Nat) (ds : List Bool), j ≤ lc ∧ i = .int .i64 j ∧ Hid (ds.length = len) ∧ wr.ownsRow w.heap.size 4 1 (.slice ao1 len cap1) len (bools cs) ∧ wr.ownsRow w1.heap.size 4 1 (.slice ao2 len cap2) len (bools ds) ∧ Below w.heap.size w wr)
           (fun _ i _ => lc - (intOf i).toNat)
        case atStart => exact ⟨0, xs, Nat.zero_le _, rfl, HL, hown1, hown2, hbel⟩
        case round =>
          clear hown1 hown2 hbel
          obtain ⟨j, ds, hj, rfl, HE, hown1, hown2, hbel⟩ := hrel
          by_cases hlt2 : j < lc
          · obtain ⟨b, rfl, hcb⟩ := (hr3.ext hbel).at (Go.Bs.ints_at m j (by rw [HL3.out]; exact hlt2))
            obtain ⟨n, hn⟩ : ∃ n, n = m[j]'(by rw [HL3.out]; exact hlt2) := ⟨_, rfl⟩
            rw [← hn] at hcb
            clear hn
            by_cases hin : 0 ≤ n ∧ n < len
            · obtain ⟨q, rfl⟩ := Int.eq_ofNat_of_zero_le hin.1
              have hq : q < len := by omega
              clear hin
              rcases hown2.2 with ⟨hv, hv'⟩ | ⟨gc, cap', cur, hv, _⟩
              · exfalso; omega
              cases hv
              have hgc := hblk2 gc rfl
              have hqc : q < ds.length := by rw [HE.out]; exact hq
              obtain ⟨hc, hf⟩ := own_cell hown2 q _ (bools_at ds q hqc)
              have hqi : (q : Int) < (len : Int) := by omega
              go_wp2_with fail
              go_region
              go_wp2_with fail
              go_roundw
              case rel =>
                refine ⟨j + 1, ds.set q (!ds[q]), by omega, by go_num, ?_, ?_, ?_, (hbel.setCell (Nat.le_trans hz1 hgc.1) _).drew⟩
                · show _ = _; rw [List.length_set]; exact HE.out
                · refine World.ownsRow.drew ?_
                  exact hown1.kept (grown_set wr gc q (.bool (!ds[q]))) (by
                    cases ao1 with
                    | none => left; rfl
                    | some a1 => right; intro e; have h1' := hblk1 a1.block rfl; simp [Value.ownBlock] at e; omega)
                · have := (hown2.stored q (.bool (!ds[q]))).1
                  rw [show (bools ds).set q (.bool (!ds[q])) = bools (ds.set q (!ds[q])) by simp [bools, List.map_set]] at this
                  exact this.drew
              case measure => simp [intOf]; omega
            · rcases (show n < 0 ∨ (0 ≤ n ∧ (len : Int) ≤ n) by omega) with h | ⟨h, h'⟩
              all_goals
                clear hin
                go_wp2_with fail
                go_roundw
                case rel => exact ⟨j + 1, ds, by omega, by go_num, HE, hown1, hown2, hbel⟩
                case measure => simp [intOf]; omega
          · obtain ⟨a1, k1, e1, _, _, _, hc⟩ := own_row hown1
            obtain ⟨a2, k2, e2, _, _, _, hd⟩ := own_row hown2
            cases e1
            cases e2
            have hra := hr.ext hbel
            have eC := HC.out
            have eD := HE.out
            have eX := HL.out
            have R1 := Lib.hid (distRes_ok (xs := xs) (ys := cs) (by omega))
            have R2 := Lib.hid (distRes_ok (xs := cs) (ys := ds) (by omega))
            have R3 := Lib.hid (distRes_ok (xs := xs) (ys := ds) (by omega))
            have R4 := Lib.hid (distRes_ok (xs := cs) (ys := xs) (by omega))
            have R5 := Lib.hid (distRes_ok (xs := xs) (ys := List.replicate len false) (by rw [List.length_replicate]; exact eX))
            have D1 := Lib.hid (dist_symm xs cs)
            have D2 := dist_tri xs cs ds (by omega) (by omega)
            have D3 := Lib.hid (dist_zero xs cs (by omega))
            have D4 := dist_zeros xs
            rw [eX] at D4
            have D4' := Lib.hid D4
            have D5 := HD.out
            have D6 := cnt_bd (diffs xs cs)
            have D7 := cnt_bd (diffs cs ds)
            rw [length_diffs xs cs (by omega)] at D6
            rw [length_diffs cs ds (by omega)] at D7
            have eC' := Lib.hid eC
            have eD' := Lib.hid eD
            have n1 : xs.length ≤ 500 := by omega
            have n2 : cs.length ≤ 500 := by omega
            clear eC eD eX D4 hown1 hown2
            go_wp2_with fail
            refine (distance_any _ _ _ _ _ _ xs cs _ HL.out eC'.out (by omega) hra hc).mono ?_
            rw [R1.out]
            rintro e w5 ⟨rfl, hx5⟩
            simp only [two]
            replace hra := hra.ext hx5
            replace hc := hc.ext hx5
            replace hd := hd.ext hx5
            go_wp2_with fail
            refine (distance_any _ _ _ _ _ _ cs ds _ eC'.out eD'.out (by omega) hc hd).mono ?_
            rw [R2.out]
            rintro e w6 ⟨rfl, hx6⟩
            simp only [two]
            replace hra := hra.ext hx6
            replace hc := hc.ext hx6
            replace hd := hd.ext hx6
            go_wp2_with fail
            refine (distance_any _ _ _ _ _ _ xs ds _ HL.out eD'.out (by omega) hra hd).mono ?_
            rw [R3.out]
            rintro e w7 ⟨rfl, hx7⟩
            simp only [two]
            replace hra := hra.ext hx7
            replace hc := hc.ext hx7
            clear hd
            go_wp2_with fail
            refine (distance_any _ _ _ _ _ _ cs xs _ eC'.out HL.out (by omega) hc hra).mono ?_
            rw [R4.out, ← D1.out]
            rintro e w8 ⟨rfl, hx8⟩
            simp only [two]
            replace hra := hra.ext hx8
            replace hc := hc.ext hx8
            go_wp2_with (at_make; refine wpList_make (ws := w8) rfl _ _ 22 rfl w8.heap.size 4 (.bool false) 1 Try.infoBool rfl Try.underlying22 _ _ _ _ rfl rfl len len rfl rfl (Nat.le_refl _) (by omega) (by omega) (Below.refl _ _) (Nat.le_refl _) ?_)
            intro w9 hown9 hx9 _
            obtain ⟨a9, k9, e9, _, _, _, h9⟩ := own_row hown9
            cases e9
            clear hown9
            replace hra := hra.ext hx9
            replace hc := hc.ext hx9
            go_wp2_with fail
            refine (distance_any _ _ _ _ _ _ xs (List.replicate len false) _ HL.out (by simp) (by omega) hra (by rw [show bools (List.replicate len false) = List.replicate len (.bool false) by simp [bools]]; exact h9)).mono ?_
            rw [R5.out, D4'.out]
            rintro e w10 ⟨rfl, hx10⟩
            simp only [two]
            replace hra := hra.ext hx10
            replace hc := hc.ext hx10
            have D3' := D3.out
            obtain ⟨A, hA⟩ : ∃ A, A = cnt (diffs xs cs) := ⟨_, rfl⟩
            obtain ⟨B, hB⟩ : ∃ B, B = cnt (diffs cs ds) := ⟨_, rfl⟩
            obtain ⟨C, hC⟩ : ∃ C, C = cnt (diffs xs ds) := ⟨_, rfl⟩
            rw [← hA] at D2 D3' D5 D6 ⊢
            rw [← hB] at D2 D7 ⊢
            rw [← hC] at D2 ⊢
            have HD3 := Lib.hid D3'
            clear hA hB hC R1 R2 R3 R4 R5 D1 D3 D3' D4' HD
            have d60 := D6.1
            have d61 : A ≤ 500 := by omega
            have d70 := D7.1
            have d71 : B ≤ 500 := by omega
            clear D6 D7
            go_wp2_with fail
            refine (same_any _ _ _ _ _ _ xs cs _ HL.out eC'.out (by omega) hra hc).mono ?_
            rw [← HD3.out]
            rintro e w11 ⟨rfl, hx11⟩
            replace hra := hra.ext hx11
            have hbb : ((A == 0) == (A == 0)) = true := by simp
            go_wp2_with fail
            refine (weight_any _ _ _ xs _ HL.out (by omega) hra).mono ?_
            rintro e w' ⟨rfl, rfl⟩
            go_wp2_with fail
            refine (alive_any _).mono ?_
            rintro e w12 ⟨rfl, hx12⟩
            go_wp2_with fail
            go_ret
            exact ⟨rfl, Ext.below hbel hbel.size (hx5.trans (hx6.trans (hx7.trans (hx8.trans (Ext.trans hx9 (hx10.trans (hx11.trans hx12)))))))⟩

set_option maxRecDepth 100000 in
theorem bitsMetric_lifted (os : Os) (started : os.Started) (H : Type) (enc : TypeId × Value → H) :
    ReturnsInHanded {} Try.checked os 9 .any (Rows.bitsMetricSpec.pre6 enc Try.prog Try.f9 Rows.bitsMetricRow.domain false) (Rows.bitsMetricSpec.post enc Try.prog Try.f9 false true false false) := by
  refine returnsInHanded_of_change (C := Try.checked) Try.own started (by kernel_rfl) Try.func9
    (ChangeSpec.witness6 (enc := enc) (C := Try.checked) false ⟨#[], #[.slice none 0 0, .slice none 0 0, .slice none 0 0], []⟩ 8 (by kernel_rfl) (by kernel_rfl) (by kernel_rfl) (by kernel_rfl)) ?_
  intro W base args ds gs before hval0 hW _ _
  have hval : ∀ (j : Nat) t v, Try.f9.params[j]? = some t → args[j]? = some v → Value.okWide Try.prog W .any base t v := hval0
  have hW' := hW
  obtain ⟨p, q, hA0, hV, rfl, _, _⟩ := hW
  have hA : DataW.TrodAll enc Try.prog W 0 (fun _ => true) true Try.f9.params.toList args.toList ds p := hA0
  rw [Try.params9] at hA hval
  obtain ⟨rfl, rfl⟩ := trodVars_none hV
  clear hA0 hval0
  simp only [List.append_nil] at hW'
  have hlt : ∀ x ∈ p, x.block < W.heap.size := fun x hx => by simpa using hW'.lt x hx
  have hstay : ∀ W', Below W.heap.size W W' → _ := fun W' hb => args_stay (enc := enc) Try.laidOut hb _ _ _ _ (by kernel_rfl) hA hlt
  obtain ⟨v0, v1, v2, d0, d1, d2, p0, p1, p2, rfl, rfl, rfl, h0, h1, h2⟩ := trodAll_three hA
  obtain ⟨ao0, len0, cap0, rfl⟩ := okWide_slice Try.underlying22 (hval 0 22 v0 rfl rfl)
  obtain ⟨fuel0, hf0⟩ := h0
  obtain ⟨xs0, ao0', len0', cap0', hv0, hl0, hc0, hm0, hn0, hr0⟩ := view_bools Try.underlying22 Try.underlying4 Try.cellsBool hf0
  cases hv0
  obtain ⟨ao1, len1, cap1, rfl⟩ := okWide_slice Try.underlying33 (hval 1 33 v1 rfl rfl)
  obtain ⟨fuel1, hf1⟩ := h1
  obtain ⟨xs1, ⟨ao1', len1', cap1', hv1, hl1, hc1, hm1, hn1, hr1⟩, hw1⟩ := view_nums Try.underlying33 Try.underlying3 Try.cellsInt hf1
  cases hv1
  obtain ⟨ao2, len2, cap2, rfl⟩ := okWide_slice Try.underlying33 (hval 2 33 v2 rfl rfl)
  obtain ⟨fuel2, hf2⟩ := h2
  obtain ⟨xs2, ⟨ao2', len2', cap2', hv2, hl2, hc2, hm2, hn2, hr2⟩, hw2⟩ := view_nums Try.underlying33 Try.underlying3 Try.cellsInt hf2
  cases hv2
  refine (bitsMetric_walk ao0 len0 cap0 xs0 ao1 len1 cap1 xs1 ao2 len2 cap2 xs2 W (by rw [length_bools] at hl0; exact hl0) hc0 hm0 hn0 hr0 (by rw [List.length_map] at hl1; exact hl1) hc1 hm1 hn1 hr1 (fun n hn => wf_i64_bd (hw1 n hn)) (by rw [List.length_map] at hl2; exact hl2) hc2 hm2 hn2 hr2 (fun n hn => wf_i64_bd (hw2 n hn))).mono fun e W' ⟨he, hb⟩ => ?_
  subst he
  exact ⟨_, rfl, _, _, _, [], _, [], hW', trodAll_mk1 (shut_bool Try.underlying4 _), hstay W' hb, rfl, hb.frame _, fun h => by cases h⟩

theorem bitsMetric_holds : Rows.BitsMetricSaid :=
  OpenClaim.holds_of_wide 9 Try.f9 rfl rfl rfl rfl rfl rfl rfl ⟨rfl, rfl, rfl, rfl, rfl⟩ rfl rfl rfl rfl rfl (by kernel_rfl) Try.func9 (by kernel_rfl)
    (of_decide_eq_true (by kernel_rfl)) (by unfold Func.isWrapper; first | (rw [if_pos (by decide +kernel)]; kernel_rfl) | (rw [if_neg (by decide +kernel)]; exact ⟨rfl, rfl⟩))
    (fun os started H enc _ => bitsMetric_lifted os started H enc)


end Go.Proofs.Ytkkfldnkenbplaa
