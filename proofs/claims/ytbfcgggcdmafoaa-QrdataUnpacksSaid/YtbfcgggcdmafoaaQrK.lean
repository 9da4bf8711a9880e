/-
  The contracts of qrdata.header and Unpack.
  Conditions: the slices' cells are those of the lists.
-/
import Derived.Test.YtbfcgggcdmafoaaQrJ
namespace Go.Proofs.Ytbfcgggcdmafoaa
open Go.RowKit Go.Bs Go.Mode Go.Qr

def hdI (b : List Bool) : Int := num ((b.drop 4).take 4)
def hdT (b : List Bool) : Int := num ((b.drop 8).take 4) + 1
def hdP (b : List Bool) : Int := num ((b.drop 12).take 8)

/-- What Unpack returns: segments, header (index, total, parity), the error's number. -/
def unbRes (b : List Bool) (k : Int) : List SegD × (Int × Int × Int) × Int :=
  if 4 ≤ b.length ∧ num (b.take 4) = 3 then
    (if b.length < 20 then ([], (0, 0, 0), 10) else if hdT b = 1 ∨ hdT b ≤ hdI b then ([], (0, 0, 0), 9)
     else if (decRes (b.drop 20) k).2 ≠ 0 then ([], (0, 0, 0), (decRes (b.drop 20) k).2) else ((decRes (b.drop 20) k).1, (hdI b, hdT b, hdP b), 0))
  else if (decRes b k).2 ≠ 0 then ([], (0, 0, 0), (decRes b k).2) else ((decRes b k).1, (0, 0, 0), 0)
def unpRes (l : List Int) (v : Int) : List SegD × (Int × Int × Int) × Int :=
  if (clRes v).2 ≠ 0 then ([], (0, 0, 0), (clRes v).2) else if 4096 < l.length then ([], (0, 0, 0), 4) else if l.all (okw 8) = false then ([], (0, 0, 0), 3) else unbRes (fromTo l 8 l.length) (clRes v).1

def UnpPost (w : World) (r : List SegD × (Int × Int × Int) × Int) (e : Ending) (w' : World) : Prop :=
  ∃ ao cap, e = .returned (.tuple #[.agg #[.slice ao r.1.length cap, .int .i64 r.2.1.1, .int .i64 r.2.1.2.1, .int .i64 r.2.1.2.2], .int .i64 r.2.2]) ∧ Segs w' ao r.1 ∧ r.1.length ≤ cap ∧ cap ≤ 9223372036854775807 ∧ Ext w w'

theorem up_1 {l : List Int} {v K E : Int} (h : clRes v = (K, E)) (hE : E ≠ 0) : unpRes l v = ([], (0, 0, 0), E) := by unfold unpRes; rw [h, if_pos hE]
theorem up_2 {l : List Int} {v K : Int} (h : clRes v = (K, 0)) (h2 : 4096 < l.length) : unpRes l v = ([], (0, 0, 0), 4) := by unfold unpRes; rw [h, if_neg (by simp), if_pos h2]
theorem up_3 {l : List Int} {v K : Int} (h : clRes v = (K, 0)) (h2 : ¬ 4096 < l.length) (h3 : l.all (okw 8) = false) : unpRes l v = ([], (0, 0, 0), 3) := by unfold unpRes; rw [h, if_neg (by simp), if_neg h2, if_pos h3]
theorem up_4 {l : List Int} {v K : Int} (h : clRes v = (K, 0)) (h2 : ¬ 4096 < l.length) (h3 : l.all (okw 8) = true) : unpRes l v = unbRes (fromTo l 8 l.length) K := by unfold unpRes; rw [h, if_neg (by simp), if_neg h2, if_neg (by rw [h3]; simp)]

theorem ub_1 {b : List Bool} {k : Int} (h : 4 ≤ b.length ∧ num (b.take 4) = 3) (h2 : b.length < 20) : unbRes b k = ([], (0, 0, 0), 10) := by unfold unbRes; rw [if_pos h, if_pos h2]
theorem ub_2 {b : List Bool} {k : Int} (h : 4 ≤ b.length ∧ num (b.take 4) = 3) (h2 : ¬ b.length < 20) (h3 : hdT b = 1 ∨ hdT b ≤ hdI b) : unbRes b k = ([], (0, 0, 0), 9) := by unfold unbRes; rw [if_pos h, if_neg h2, if_pos h3]
theorem ub_3 {b : List Bool} {k E : Int} {l : List SegD} (h : 4 ≤ b.length ∧ num (b.take 4) = 3) (h2 : ¬ b.length < 20) (h3 : ¬ (hdT b = 1 ∨ hdT b ≤ hdI b)) (h4 : decRes (b.drop 20) k = (l, E)) (hE : E ≠ 0) : unbRes b k = ([], (0, 0, 0), E) := by
  unfold unbRes; rw [if_pos h, if_neg h2, if_neg h3, h4, if_pos hE]
theorem ub_4 {b : List Bool} {k : Int} {l : List SegD} (h : 4 ≤ b.length ∧ num (b.take 4) = 3) (h2 : ¬ b.length < 20) (h3 : ¬ (hdT b = 1 ∨ hdT b ≤ hdI b)) (h4 : decRes (b.drop 20) k = (l, 0)) : unbRes b k = (l, (hdI b, hdT b, hdP b), 0) := by
  unfold unbRes; rw [if_pos h, if_neg h2, if_neg h3, h4, if_neg (by simp)]
theorem ub_5 {b : List Bool} {k E : Int} {l : List SegD} (h : ¬ (4 ≤ b.length ∧ num (b.take 4) = 3)) (h4 : decRes b k = (l, E)) (hE : E ≠ 0) : unbRes b k = ([], (0, 0, 0), E) := by unfold unbRes; rw [if_neg h, h4, if_pos hE]
theorem ub_6 {b : List Bool} {k : Int} {l : List SegD} (h : ¬ (4 ≤ b.length ∧ num (b.take 4) = 3)) (h4 : decRes b k = (l, 0)) : unbRes b k = (l, (0, 0, 0), 0) := by unfold unbRes; rw [if_neg h, h4, if_neg (by simp)]

theorem num_small (l : List Bool) (n : Nat) (h : n ≤ 8) : 0 ≤ num (l.take n) ∧ num (l.take n) < 256 := by
  have h1 := num_bd (l.take n)
  have h2 : (l.take n).length ≤ 8 := Nat.le_trans (List.length_take_le n l) h
  have h3 : (2 : Int) ^ (l.take n).length ≤ 256 := by
    have : 2 ^ (l.take n).length ≤ 2 ^ 8 := Nat.pow_le_pow_right (by decide) h2
    have e : ((2 ^ (l.take n).length : Nat) : Int) = (2 : Int) ^ (l.take n).length := by rw [Int.natCast_pow]; rfl
    omega
  omega

set_option maxRecDepth 20000 in
set_option maxHeartbeats 800000 in
theorem hheader_any (ao : Option Addr) (len cap : Nat) (b : List Bool) (w : World) (hl : b.length = len) (hcap : len ≤ cap) (hm : cap ≤ 9223372036854775807) (h20 : 20 ≤ len) (hr : Row w ao (bools b)) :
    Calls Try.prog 36 #[.slice ao len cap] w fun e w' => e = .returned (.agg #[.int .i64 (hdI b), .int .i64 (hdT b), .int .i64 (hdP b)]) ∧ Ext w w' := by
  have HL := Lib.hid hl
  have HTA : ∀ (p n : Nat), p + n ≤ 20 → n ≤ 62 → Hid (takeRes b p n = (num ((b.drop p).take n), 0)) := by
    intro p n h1 h2
    show _ = _
    rw [takeRes_3 (by rw [hl]; omega) (by rw [hl]; omega)]
    rfl
  have H1 := HTA 4 4 (by omega) (by omega)
  have H2 := HTA 8 4 (by omega) (by omega)
  have H3 := HTA 12 8 (by omega) (by omega)
  have hb2 := num_small (b.drop 8) 4 (by omega)
  have HI : Hid (hdI b = num ((b.drop 4).take 4)) := rfl
  have HT : Hid (hdT b = num ((b.drop 8).take 4) + 1) := rfl
  have HP : Hid (hdP b = num ((b.drop 12).take 8)) := rfl
  rw [HI.out, HT.out, HP.out]
  obtain ⟨x, hx⟩ : ∃ x, x = num ((b.drop 4).take 4) := ⟨_, rfl⟩
  obtain ⟨y, hy⟩ : ∃ y, y = num ((b.drop 8).take 4) := ⟨_, rfl⟩
  obtain ⟨z, hz⟩ : ∃ z, z = num ((b.drop 12).take 8) := ⟨_, rfl⟩
  rw [← hx] at H1 ⊢
  rw [← hy] at H2 hb2 ⊢
  rw [← hz] at H3 ⊢
  clear hx hy hz HTA hl HI HT HP
  have HG := Lib.hid (heap_alloc_new w (.cells #[.int .i64 0, .int .i64 0, .int .i64 0] 23))
  have HRW := Lib.hid (hr.ext (Ext.alloc w (.cells #[.int .i64 0, .int .i64 0, .int .i64 0] 23)))
  go_enter Try.func36, Try.ntmps36
  go_wp2_with fail
  refine (take_any ao len cap b 4 4 _ HL.out hcap hm HRW.out).mono ?_
  rw [show takeRes b 4 4 = takeRes b ((4 : Nat) : Int) ((4 : Nat) : Int) from rfl, H1.out]
  rintro e w' ⟨rfl, rfl⟩
  simp only [two]
  go_wp2_with fail
  refine (take_any ao len cap b 8 4 _ HL.out hcap hm HRW.out).mono ?_
  rw [show takeRes b 8 4 = takeRes b ((8 : Nat) : Int) ((4 : Nat) : Int) from rfl, H2.out]
  rintro e w' ⟨rfl, rfl⟩
  simp only [two]
  go_wp2_with fail
  refine (take_any ao len cap b 12 8 _ HL.out hcap hm HRW.out).mono ?_
  rw [show takeRes b 12 8 = takeRes b ((12 : Nat) : Int) ((8 : Nat) : Int) from rfl, H3.out]
  rintro e w' ⟨rfl, rfl⟩
  simp only [two]
  go_wp2_with ((with_reducible show wpList _ _ _ (⟨none, .store 23 _ _, _, _, _, _⟩ :: _) _ _); refine wpList_storeOwn rfl 23 _ _ rfl w.heap.size _ rfl rfl 23 _ HG.out (by kernel_rfl) (by kernel_rfl) (by kernel_rfl) w (Ext.alloc _ _) (Nat.le_refl _) ?_; intro w2 HX2 HG2)
  exact bodyPost_ret (results_cell_row rfl _ w2 w.heap.size 23 _ (0, 0) _ rfl HG2.out Try.underlying23 rfl (by kernel_rfl)) rfl ⟨rfl, HX2⟩



theorem wpList_storeOwnK {P : Program} {ops : Array Oper} {rest : List Oper} {o : Oper} {a : Act} {Q : Exit → Act → World → Prop} {w : World} (hg : o.guard = none) (t : TypeId) (x y : Operand) (ho : o.op = .store t x y) (g : Nat) (cells : Array Value) (hx : a.eval x = .pointer (some ⟨g, 0, none⟩)) (hy : a.eval y = .agg cells)
    (tt : TypeId) (old : Array Value) (hgl : w.heap[g]? = some (.cells old tt (0, 0))) (hi : (P.info? t).map (·.size) = some cells.size)
    (hold : old.size = cells.size) (h1 : cells.all (·.oneCell') = true) (ws : World) (hb : Ext ws w) (hB : ws.heap.size ≤ g)
    (h : ∀ w', Ext ws w' → Hid (w'.heap[g]? = some (.cells cells tt (0, 0))) → Hid (∀ k, k ≠ g → w'.heap[k]? = w.heap[k]?) → wpList P ops Q rest (a.put o.dst undef) w') : wpList P ops Q (o :: rest) a w :=
  wpList_store_row hg t x y ho g cells hx hy tt old hgl hi hold h1 (h _ (hb.setRow g hB cells) (setRow_heap w g old cells tt (0, 0) hgl) (fun k hk => setRow_other w g k cells hk))

theorem Try.sizeMsg : (Try.prog.info? 38).map (·.size) = some 4 := by kernel_rfl
theorem bools_drop (l : List Bool) (k : Nat) : bools (l.drop k) = (bools l).drop k := by simp [bools]
theorem row_heap {w : World} {g : Nat} {cs : List Value} {tt : TypeId} (h : w.heap[g]? = some (.cells cs.toArray tt (0, 0))) : Row w (some ⟨g, 0, none⟩) cs := by
  intro i v hi
  refine ⟨_, rfl, ?_⟩
  rw [add_zero_off, cell_of_row _ _ _ _ _ _ h]
  simpa using hi

set_option maxRecDepth 20000 in
set_option maxHeartbeats 3200000 in
theorem unpack_msg (ao : Option Addr) (len cap : Nat) (l : List Int) (v : Int) (w : World) (hl : l.length = len) (hcap : len ≤ cap) (_ : cap ≤ 9223372036854775807) (hr : Row w ao (ints l)) :
    Calls Try.prog 19 #[.slice ao len cap, .int .i64 v] w (UnpPost w (unpRes l v)) := by
  have HL := Lib.hid hl
  have hge : len ≤ l.length := by omega
  have hle : l.length ≤ len := by omega
  clear hl
  obtain ⟨R, hR⟩ : ∃ R, R = unpRes l v := ⟨_, rfl⟩
  have HR := Lib.hid hR
  rw [← hR]
  clear hR
  obtain ⟨K, E1, hcl⟩ : ∃ K E1, clRes v = (K, E1) := ⟨_, _, rfl⟩
  have HCL := Lib.hid hcl
  clear hcl
  obtain ⟨W0, hW0⟩ : ∃ W0, W0 = w.alloc (.cells #[.slice none 0 0, .int .i64 0, .int .i64 0, .int .i64 0] 38) := ⟨_, rfl⟩
  have HG : Hid (W0.heap[w.heap.size]? = some (.cells #[.slice none 0 0, .int .i64 0, .int .i64 0, .int .i64 0] 38 (0, 0))) := by rw [hW0]; exact heap_alloc_new _ _
  have HX0 : Hid (Ext w W0) := by rw [hW0]; exact Ext.alloc _ _
  go_enter Try.func19, Try.ntmps19
  go_wp2_with fail
  rw [← hW0]
  clear hW0
  refine (class_any v _).mono ?_
  rw [HCL.out]
  rintro e w' ⟨rfl, rfl⟩
  simp only [two]
  by_cases e1 : E1 = 0
  case neg =>
    have hne : (E1 != 0) = true := by simp [e1]
    have HR1 := Lib.hid (HR.out.trans (up_1 HCL.out e1))
    clear e1
    go_wp2_with ((with_reducible show wpList _ _ _ (⟨none, .store 38 _ _, _, _, _, _⟩ :: _) _ _); refine wpList_storeOwn rfl 38 _ _ rfl w.heap.size _ rfl rfl 38 _ HG.out (by kernel_rfl) (by kernel_rfl) (by kernel_rfl) w HX0.out (Nat.le_refl _) ?_; intro wE HXE HGE)
    rw [HR1.out]
    exact bodyPost_ret (results_cellSlot rfl _ wE w.heap.size 38 _ (0, 0) _ rfl HGE.out Try.underlying38 rfl (by kernel_rfl)) rfl ⟨none, 0, rfl, Segs.nil _ _, Nat.le_refl _, by decide, HXE⟩
  case pos =>
    subst e1
    by_cases h4 : 4096 < len
    · have HR1 := Lib.hid (HR.out.trans (up_2 HCL.out (by omega)))
      go_wp2_with ((with_reducible show wpList _ _ _ (⟨none, .store 38 _ _, _, _, _, _⟩ :: _) _ _); refine wpList_storeOwn rfl 38 _ _ rfl w.heap.size _ rfl rfl 38 _ HG.out (by kernel_rfl) (by kernel_rfl) (by kernel_rfl) w HX0.out (Nat.le_refl _) ?_; intro wE HXE HGE)
      rw [HR1.out]
      exact bodyPost_ret (results_cellSlot rfl _ wE w.heap.size 38 _ (0, 0) _ rfl HGE.out Try.underlying38 rfl (by kernel_rfl)) rfl ⟨none, 0, rfl, Segs.nil _ _, Nat.le_refl _, by decide, HXE⟩
    · have hl4 : len ≤ 4096 := by omega
      clear h4
      have HRW := Lib.hid (hr.ext HX0.out)
      go_wp2_with fail
      go_loop [9, 29] (fun _ i => ∃ j : Nat, j ≤ len ∧ i = .int .i64 j ∧ Hid ((l.take j).all (okw 8) = true)) (fun _ i => len - (intOf i).toNat)
      case atStart => exact ⟨0, Nat.zero_le _, rfl, rfl⟩
      case round =>
        obtain ⟨j, hj, rfl, HJ⟩ := hrel
        by_cases hlt : j < len
        · obtain ⟨a, rfl, hc⟩ := HRW.out.at (Go.Bs.ints_at l j (by omega))
          by_cases hx : 0 ≤ (l[j]'(by omega)) ∧ (l[j]'(by omega)) ≤ 255
          · have HJ2 : Hid ((l.take (j + 1)).all (okw 8) = true) := all_take_succ (okw 8) l j (by omega) HJ.out (by unfold okw; simp; omega)
            obtain ⟨hx1, hx2⟩ := hx
            go_wp2_with fail
            go_round
            case rel => exact ⟨j + 1, by omega, int_eq (by omega), HJ2⟩
            case measure => simp [intOf]; omega
          · have hbad : l.all (okw 8) = false := all_at (okw 8) l j (by omega) (by unfold okw; simp; omega)
            have HR1 := Lib.hid (HR.out.trans (up_3 HCL.out (by omega) hbad))
            have hx' : (l[j]'(by omega)) < 0 ∨ (0 ≤ (l[j]'(by omega)) ∧ 255 < (l[j]'(by omega))) := by omega
            clear hx hbad
            rcases hx' with hx1 | ⟨hx1, hx2⟩
            · skip
              go_wp2_with ((with_reducible show wpList _ _ _ (⟨none, .store 38 _ _, _, _, _, _⟩ :: _) _ _); refine wpList_storeOwn rfl 38 _ _ rfl w.heap.size _ rfl rfl 38 _ HG.out (by kernel_rfl) (by kernel_rfl) (by kernel_rfl) w HX0.out (Nat.le_refl _) ?_; intro wE HXE HGE)
              rw [HR1.out]
              exact bodyPost_ret (results_cellSlot rfl _ wE w.heap.size 38 _ (0, 0) _ rfl HGE.out Try.underlying38 rfl (by kernel_rfl)) rfl ⟨none, 0, rfl, Segs.nil _ _, Nat.le_refl _, by decide, HXE⟩
            · skip
              go_wp2_with ((with_reducible show wpList _ _ _ (⟨none, .store 38 _ _, _, _, _, _⟩ :: _) _ _); refine wpList_storeOwn rfl 38 _ _ rfl w.heap.size _ rfl rfl 38 _ HG.out (by kernel_rfl) (by kernel_rfl) (by kernel_rfl) w HX0.out (Nat.le_refl _) ?_; intro wE HXE HGE)
              rw [HR1.out]
              exact bodyPost_ret (results_cellSlot rfl _ wE w.heap.size 38 _ (0, 0) _ rfl HGE.out Try.underlying38 rfl (by kernel_rfl)) rfl ⟨none, 0, rfl, Segs.nil _ _, Nat.le_refl _, by decide, HXE⟩
        · obtain rfl : j = len := by omega
          have hall : l.all (okw 8) = true := by have := HJ.out; rwa [List.take_of_length_le (by omega)] at this
          have HR1 := Lib.hid (HR.out.trans (up_4 HCL.out (by omega) hall))
          have HFR : Hid (fromRes l 8 = (fromTo l 8 l.length, 0)) := fromRes_3 (by omega) (by omega) hall
          have HBL : Hid ((fromTo l 8 l.length).length = 8 * j) := by show _ = _; rw [length_fromTo l 8 l.length (Nat.le_refl _)]; omega
          clear hall HJ
          obtain ⟨B, hB⟩ : ∃ B, B = fromTo l 8 l.length := ⟨_, rfl⟩
          rw [← hB] at HR1 HFR HBL
          clear hB
          go_wp2_with fail
          refine (fromWords_any ao j cap l 8 _ HL.out (by omega) HRW.out).mono ?_
          rw [HFR.out]
          intro e w1 hret
          obtain ⟨bo, bc, rfl, hr1, hc1, hm1, hn1, hx1⟩ := hret.bools
          clear hret
          rw [HBL.out] at hc1 ⊢
          have HX1 := Lib.hid (HX0.out.trans hx1)
          have HG1 := Lib.hid (hx1.old HG.out)
          have HB1 := Lib.hid hr1
          have hbb : ∀ a, bo = some a → (0 < 8 * j → a.block < w1.heap.size) := by
            intro a ha h0
            subst ha
            obtain ⟨a', ha', hc'⟩ := HB1.out.at (bools_at B 0 (by rw [HBL.out]; exact h0))
            cases ha'
            have := World.block_lt_of_cell? w1 _ hc'
            rwa [block_add] at this
          have HBB := Lib.hid hbb
          clear hx1 hr1 hbb HG HX0 HRW
          go_wp2_with fail
          obtain ⟨W1, hW1⟩ : ∃ W1, W1 = w1.alloc (.cells #[.slice none 0 0, .int .i64 0, .int .i64 0, .int .i64 0] 38) := ⟨_, rfl⟩
          rw [← hW1]
          have HX2 : Hid (Ext w1 W1) := by rw [hW1]; exact Ext.alloc _ _
          have HGB : Hid (W1.heap[w1.heap.size]? = some (.cells #[.slice none 0 0, .int .i64 0, .int .i64 0, .int .i64 0] 38 (0, 0))) := by rw [hW1]; exact heap_alloc_new _ _
          have HG2 := Lib.hid (HX2.out.old HG1.out)
          have HB2 := Lib.hid (HB1.out.ext HX2.out)
          have HXW := Lib.hid (HX1.out.trans HX2.out)
          have HSG : Hid (w.heap.size < w1.heap.size) := (Array.getElem?_eq_some_iff.1 HG1.out).1
          clear hW1 HG1 HB1
          obtain ⟨g1, hg1⟩ : ∃ g1, g1 = w1.heap.size := ⟨_, rfl⟩
          rw [← hg1] at HGB HBB HSG ⊢
          clear hg1 HX1 HX2
          by_cases hhd : 4 ≤ 8 * j ∧ num (B.take 4) = 3
          case neg =>
            have HHD : Hid (¬ (4 ≤ B.length ∧ num (B.take 4) = 3)) := by show ¬ _; rw [HBL.out]; exact hhd
            obtain ⟨ld, E, hde⟩ : ∃ ld E, decRes B K = (ld, E) := ⟨_, _, rfl⟩
            have HDE := Lib.hid hde
            clear hde
            have HRE : Hid (E ≠ 0 → R = ([], (0, 0, 0), E)) := fun h => HR1.out.trans (ub_5 HHD.out HDE.out h)
            have HRO : Hid (E = 0 → R = (ld, (0, 0, 0), 0)) := fun h => HR1.out.trans (ub_6 HHD.out (by rw [HDE.out, h]))
            by_cases hj0 : j = 0
            · have HT : Hid (takeRes B 0 4 = (0, 10)) := by show _ = _; rw [takeRes_2 (by rw [HBL.out]; omega) (by rw [HBL.out]; omega)]
              clear hhd hj0
              refine (take_any bo (8 * j) bc B 0 4 _ HBL.out hc1 hm1 HB2.out).mono ?_
              rw [HT.out]
              rintro e w' ⟨rfl, rfl⟩
              simp only [two]
              go_wp2_with fail
              refine (decode_any bo (8 * j) bc B K W1 HBL.out (by omega) hn1 HB2.out).mono ?_
              rw [HDE.out]
              rintro e wD ⟨so, sc, rfl, hsD, hcD, hmD, hxD⟩
              simp only at hsD hcD ⊢
              have HGBD := Lib.hid (hxD.old HGB.out)
              have HGD := Lib.hid (hxD.old HG2.out)
              have HXD := Lib.hid ((HXW.out).trans hxD)
              have c0 : wD.cell? ⟨g1, 0, none⟩ = some (.slice none 0 0) := by rw [cell_of_row _ _ _ _ _ _ HGBD.out]; rfl
              have fz : wD.frozen? ⟨g1, 0, none⟩ = false := frozen_of_row _ _ 0 _ _ HGBD.out
              have HSD := Lib.hid hsD
              clear hsD hxD
              obtain ⟨WE, hWE⟩ : ∃ WE, WE = wD.setCell ⟨g1, 0, none⟩ (.slice so ld.length sc) := ⟨_, rfl⟩
              have HWE := Lib.hid hWE
              have HGE1 : Hid (WE.heap[w.heap.size]? = some (.cells #[.slice none 0 0, .int .i64 0, .int .i64 0, .int .i64 0] 38 (0, 0))) := by
                rw [hWE]; exact (Below.heap_setCell _ _ _ _ (by have := HSG.out; simp only; omega)).trans HGD.out
              have HXE1 : Hid (Ext w WE) := by rw [hWE]; exact HXD.out.set (Nat.le_of_lt HSG.out) _ _
              have HRE1 : Hid (Row WE (some ⟨g1, 0, none⟩) [.slice so ld.length sc, .int .i64 (0 : Int), .int .i64 (0 : Int), .int .i64 (0 : Int)]) := by
                rw [hWE]
                exact row_heap (heap_setS wD g1 _ (.slice so ld.length sc) [.int .i64 (0 : Int), .int .i64 (0 : Int), .int .i64 (0 : Int)] _ HGBD.out)
              have HSE1 : Hid (SegsN WE (W1).heap.size so ld) := by
                rw [hWE]
                exact HSD.out.kept (fun k hk _ => Below.heap_setCell _ _ _ _ (by have : g1 < (W1).heap.size := (Array.getElem?_eq_some_iff.1 HGB.out).1; simp only; omega))
              have HGW : Hid (w.heap.size < (W1).heap.size) := (Array.getElem?_eq_some_iff.1 HG2.out).1
              clear hWE
              by_cases hE0 : E = 0
              case neg =>
                have HR9 := Lib.hid (HRE.out hE0)
                have hne9 : (E != 0) = true := by simp [hE0]
                clear hE0
                rw [HWE.out] at HGE1 HXE1
                go_wp2_with ((with_reducible show wpList _ _ _ (⟨none, .store 38 _ _, _, _, _, _⟩ :: _) _ _); refine wpList_storeOwn rfl 38 _ _ rfl w.heap.size _ rfl rfl 38 _ HGE1.out (by kernel_rfl) (by kernel_rfl) (by kernel_rfl) w HXE1.out (Nat.le_refl _) ?_; intro wE HXE HGE)
                rw [HR9.out]
                exact bodyPost_ret (results_cellSlot rfl _ wE w.heap.size 38 _ (0, 0) _ rfl HGE.out Try.underlying38 rfl (by kernel_rfl)) rfl ⟨none, 0, rfl, Segs.nil _ _, Nat.le_refl _, by decide, HXE⟩
              case pos =>
                have HR9 := Lib.hid (HRO.out hE0)
                subst hE0
                rw [HWE.out] at HGE1 HXE1 HRE1 HSE1
                have HON : Hid (([.slice so ld.length sc, .int .i64 (0 : Int), .int .i64 (0 : Int), .int .i64 (0 : Int)] : List Value).toArray.all (·.oneCell') = true) := by show _ = _; simp [Value.oneCell']
                go_wp2_with (first | ((with_reducible show wpList _ _ _ (⟨some 95, _, _, _, _, _⟩ :: _) _ _); refine wpList_loadAgg rfl 38 _ rfl _ Try.underlying38 rfl _ rfl [.slice so ld.length sc, .int .i64 (0 : Int), .int .i64 (0 : Int), .int .i64 (0 : Int)] HRE1.out (by kernel_rfl) ?_) | ((with_reducible show wpList _ _ _ (⟨none, .store 38 _ _, _, _, _, _⟩ :: _) _ _); refine wpList_storeOwnK rfl 38 _ _ rfl w.heap.size _ rfl rfl 38 _ HGE1.out Try.sizeMsg (by rfl) HON.out w HXE1.out (Nat.le_refl _) ?_; intro wE HXE HGE HKE))
                rw [HR9.out]
                exact bodyPost_ret (results_cellSlot rfl _ wE w.heap.size 38 _ (0, 0) _ rfl HGE.out Try.underlying38 rfl (by kernel_rfl)) rfl ⟨so, sc, rfl, (HSE1.out.kept (fun k hk _ => HKE.out k (by have := HGW.out; omega))).segs, hcD, hmD, HXE⟩
            · have HT : Hid (takeRes B 0 4 = (num (B.take 4), 0)) := by show _ = _; rw [takeRes_3 (by rw [HBL.out]; omega) (by rw [HBL.out]; omega)]; rfl
              have hn3 : (num (B.take 4) == 3) = false := by rw [beq_eq_false_iff_ne]; intro h; exact hhd ⟨by omega, h⟩
              clear hhd
              refine (take_any bo (8 * j) bc B 0 4 _ HBL.out hc1 hm1 HB2.out).mono ?_
              rw [HT.out]
              rintro e w' ⟨rfl, rfl⟩
              simp only [two]
              go_wp2_with fail
              refine (decode_any bo (8 * j) bc B K W1 HBL.out (by omega) hn1 HB2.out).mono ?_
              rw [HDE.out]
              rintro e wD ⟨so, sc, rfl, hsD, hcD, hmD, hxD⟩
              simp only at hsD hcD ⊢
              have HGBD := Lib.hid (hxD.old HGB.out)
              have HGD := Lib.hid (hxD.old HG2.out)
              have HXD := Lib.hid ((HXW.out).trans hxD)
              have c0 : wD.cell? ⟨g1, 0, none⟩ = some (.slice none 0 0) := by rw [cell_of_row _ _ _ _ _ _ HGBD.out]; rfl
              have fz : wD.frozen? ⟨g1, 0, none⟩ = false := frozen_of_row _ _ 0 _ _ HGBD.out
              have HSD := Lib.hid hsD
              clear hsD hxD
              obtain ⟨WE, hWE⟩ : ∃ WE, WE = wD.setCell ⟨g1, 0, none⟩ (.slice so ld.length sc) := ⟨_, rfl⟩
              have HWE := Lib.hid hWE
              have HGE1 : Hid (WE.heap[w.heap.size]? = some (.cells #[.slice none 0 0, .int .i64 0, .int .i64 0, .int .i64 0] 38 (0, 0))) := by
                rw [hWE]; exact (Below.heap_setCell _ _ _ _ (by have := HSG.out; simp only; omega)).trans HGD.out
              have HXE1 : Hid (Ext w WE) := by rw [hWE]; exact HXD.out.set (Nat.le_of_lt HSG.out) _ _
              have HRE1 : Hid (Row WE (some ⟨g1, 0, none⟩) [.slice so ld.length sc, .int .i64 (0 : Int), .int .i64 (0 : Int), .int .i64 (0 : Int)]) := by
                rw [hWE]
                exact row_heap (heap_setS wD g1 _ (.slice so ld.length sc) [.int .i64 (0 : Int), .int .i64 (0 : Int), .int .i64 (0 : Int)] _ HGBD.out)
              have HSE1 : Hid (SegsN WE (W1).heap.size so ld) := by
                rw [hWE]
                exact HSD.out.kept (fun k hk _ => Below.heap_setCell _ _ _ _ (by have : g1 < (W1).heap.size := (Array.getElem?_eq_some_iff.1 HGB.out).1; simp only; omega))
              have HGW : Hid (w.heap.size < (W1).heap.size) := (Array.getElem?_eq_some_iff.1 HG2.out).1
              clear hWE
              by_cases hE0 : E = 0
              case neg =>
                have HR9 := Lib.hid (HRE.out hE0)
                have hne9 : (E != 0) = true := by simp [hE0]
                clear hE0
                rw [HWE.out] at HGE1 HXE1
                go_wp2_with ((with_reducible show wpList _ _ _ (⟨none, .store 38 _ _, _, _, _, _⟩ :: _) _ _); refine wpList_storeOwn rfl 38 _ _ rfl w.heap.size _ rfl rfl 38 _ HGE1.out (by kernel_rfl) (by kernel_rfl) (by kernel_rfl) w HXE1.out (Nat.le_refl _) ?_; intro wE HXE HGE)
                rw [HR9.out]
                exact bodyPost_ret (results_cellSlot rfl _ wE w.heap.size 38 _ (0, 0) _ rfl HGE.out Try.underlying38 rfl (by kernel_rfl)) rfl ⟨none, 0, rfl, Segs.nil _ _, Nat.le_refl _, by decide, HXE⟩
              case pos =>
                have HR9 := Lib.hid (HRO.out hE0)
                subst hE0
                rw [HWE.out] at HGE1 HXE1 HRE1 HSE1
                have HON : Hid (([.slice so ld.length sc, .int .i64 (0 : Int), .int .i64 (0 : Int), .int .i64 (0 : Int)] : List Value).toArray.all (·.oneCell') = true) := by show _ = _; simp [Value.oneCell']
                go_wp2_with (first | ((with_reducible show wpList _ _ _ (⟨some 95, _, _, _, _, _⟩ :: _) _ _); refine wpList_loadAgg rfl 38 _ rfl _ Try.underlying38 rfl _ rfl [.slice so ld.length sc, .int .i64 (0 : Int), .int .i64 (0 : Int), .int .i64 (0 : Int)] HRE1.out (by kernel_rfl) ?_) | ((with_reducible show wpList _ _ _ (⟨none, .store 38 _ _, _, _, _, _⟩ :: _) _ _); refine wpList_storeOwnK rfl 38 _ _ rfl w.heap.size _ rfl rfl 38 _ HGE1.out Try.sizeMsg (by rfl) HON.out w HXE1.out (Nat.le_refl _) ?_; intro wE HXE HGE HKE))
                rw [HR9.out]
                exact bodyPost_ret (results_cellSlot rfl _ wE w.heap.size 38 _ (0, 0) _ rfl HGE.out Try.underlying38 rfl (by kernel_rfl)) rfl ⟨so, sc, rfl, (HSE1.out.kept (fun k hk _ => HKE.out k (by have := HGW.out; omega))).segs, hcD, hmD, HXE⟩
          case pos =>
            have HHD : Hid (4 ≤ B.length ∧ num (B.take 4) = 3) := by show _ ∧ _; rw [HBL.out]; exact hhd
            have HT : Hid (takeRes B 0 4 = (3, 0)) := by show _ = _; rw [takeRes_3 (by rw [HBL.out]; omega) (by rw [HBL.out]; omega), ← hhd.2]; rfl
            have hj1 : 4 ≤ 8 * j := hhd.1
            clear hhd
            refine (take_any bo (8 * j) bc B 0 4 _ HBL.out hc1 hm1 HB2.out).mono ?_
            rw [HT.out]
            rintro e w' ⟨rfl, rfl⟩
            simp only [two]
            by_cases h20 : 8 * j < 20
            · have HR2 := Lib.hid (HR1.out.trans (ub_1 HHD.out (by rw [HBL.out]; exact h20)))
              go_wp2_with ((with_reducible show wpList _ _ _ (⟨none, .store 38 _ _, _, _, _, _⟩ :: _) _ _); refine wpList_storeOwn rfl 38 _ _ rfl w.heap.size _ rfl rfl 38 _ HG2.out (by kernel_rfl) (by kernel_rfl) (by kernel_rfl) w HXW.out (Nat.le_refl _) ?_; intro wE HXE HGE)
              rw [HR2.out]
              exact bodyPost_ret (results_cellSlot rfl _ wE w.heap.size 38 _ (0, 0) _ rfl HGE.out Try.underlying38 rfl (by kernel_rfl)) rfl ⟨none, 0, rfl, Segs.nil _ _, Nat.le_refl _, by decide, HXE⟩
            · have H20 : Hid (¬ B.length < 20) := by show ¬ _; rw [HBL.out]; exact h20
              have hti := num_small (B.drop 8) 4 (by omega)
              have hii := num_small (B.drop 4) 4 (by omega)
              have hT1 : 1 ≤ hdT B := by show 1 ≤ num ((B.drop 8).take 4) + 1; omega
              have HHH := Lib.hid (hheader_any bo (8 * j) bc B W1 HBL.out hc1 hm1 (by omega) HB2.out)
              have HRB : Hid (hdT B = 1 ∨ hdT B ≤ hdI B → R = ([], (0, 0, 0), 9)) := fun h => HR1.out.trans (ub_2 HHD.out H20.out h)
              obtain ⟨ld, E, hde⟩ : ∃ ld E, decRes (B.drop 20) K = (ld, E) := ⟨_, _, rfl⟩
              have HDE := Lib.hid hde
              clear hde
              have HRE0 : Hid (¬ (hdT B = 1 ∨ hdT B ≤ hdI B) → E ≠ 0 → R = ([], (0, 0, 0), E)) := fun h0 h => HR1.out.trans (ub_3 HHD.out H20.out h0 HDE.out h)
              have HRO0 : Hid (¬ (hdT B = 1 ∨ hdT B ≤ hdI B) → E = 0 → R = (ld, (hdI B, hdT B, hdP B), 0)) := fun h0 h => HR1.out.trans (ub_4 HHD.out H20.out h0 (by rw [HDE.out, h]))
              obtain ⟨i, hi⟩ : ∃ i, i = hdI B := ⟨_, rfl⟩
              obtain ⟨t, ht⟩ : ∃ t, t = hdT B := ⟨_, rfl⟩
              obtain ⟨p, hp⟩ : ∃ p, p = hdP B := ⟨_, rfl⟩
              rw [← hi, ← ht] at HRB HRE0 HRO0
              rw [← hp] at HRO0
              rw [← hi, ← ht, ← hp] at HHH
              rw [← ht] at hT1
              clear hi ht hp hti hii
              go_wp2_with fail
              refine HHH.out.mono ?_
              rintro e w3 ⟨rfl, hx3⟩
              have HGB3 := Lib.hid (hx3.old HGB.out)
              have HG3 := Lib.hid (hx3.old HG2.out)
              have HB3 := Lib.hid (HB2.out.ext hx3)
              have HX3 := Lib.hid (HXW.out.trans hx3)
              have y1 : w3.cell? ⟨g1, 1, none⟩ = some (.int .i64 0) := by rw [cell_of_row _ _ _ _ _ _ HGB3.out]; rfl
              have y2 : w3.cell? ⟨g1, 2, none⟩ = some (.int .i64 0) := by rw [cell_of_row _ _ _ _ _ _ HGB3.out]; rfl
              have y3 : w3.cell? ⟨g1, 3, none⟩ = some (.int .i64 0) := by rw [cell_of_row _ _ _ _ _ _ HGB3.out]; rfl
              have f0 : ∀ o, w3.frozen? ⟨g1, o, none⟩ = false := fun o => frozen_of_row _ _ o _ _ HGB3.out
              clear HHH hx3 HGB HG2 HB2 HXW
              go_upto_region 21 with fail
              obtain ⟨W4, hW4⟩ : ∃ W4 : World, W4 = ((w3.setCell ⟨g1, 1, none⟩ (.int .i64 i)).setCell ⟨g1, 2, none⟩ (.int .i64 t)).setCell ⟨g1, 3, none⟩ (.int .i64 p) := ⟨_, rfl⟩
              rw [← hW4]
              have HGB4 : Hid (W4.heap[g1]? = some (.cells #[.slice none 0 0, .int .i64 i, .int .i64 t, .int .i64 p] 38 (0, 0))) := by
                rw [hW4]
                have h1 := heap_setCell_same w3 g1 1 _ _ (.int .i64 i) HGB3.out
                have h2 := heap_setCell_same _ g1 2 _ _ (.int .i64 t) h1
                have h3 := heap_setCell_same _ g1 3 _ _ (.int .i64 p) h2
                exact h3
              have HKG4 : Hid (∀ k, k ≠ g1 → W4.heap[k]? = w3.heap[k]?) := by
                intro k hk
                rw [hW4, Below.heap_setCell _ _ _ _ hk, Below.heap_setCell _ _ _ _ hk, Below.heap_setCell _ _ _ _ hk]
              have HG4 : Hid (W4.heap[w.heap.size]? = some (.cells #[.slice none 0 0, .int .i64 0, .int .i64 0, .int .i64 0] 38 (0, 0))) := (HKG4.out _ (by have := HSG.out; omega)).trans HG3.out
              have HX4 : Hid (Ext w W4) := by
                rw [hW4]
                exact ((HX3.out.set (Nat.le_of_lt HSG.out) _ _).set (Nat.le_of_lt HSG.out) _ _).set (Nat.le_of_lt HSG.out) _ _
              have HB4 : Hid (Row W4 bo (bools B)) := by
                intro k u hk
                obtain ⟨a, ha, hc⟩ := HB3.out k u hk
                refine ⟨a, ha, (World.cell?_of_block (w := w3) ?_).trans hc⟩
                rw [block_add]
                refine HKG4.out _ ?_
                have := HBB.out a ha (by omega)
                omega
              have y1 : W4.cell? ⟨g1, 1, none⟩ = some (.int .i64 i) := by rw [cell_of_row _ _ _ _ _ _ HGB4.out]; rfl
              have y2 : W4.cell? ⟨g1, 2, none⟩ = some (.int .i64 t) := by rw [cell_of_row _ _ _ _ _ _ HGB4.out]; rfl
              clear hW4 f0 HGB3 HG3 HB3 HX3 HKG4
              by_cases hbad : t = 1 ∨ t ≤ i
              · have HR2 := Lib.hid (HRB.out hbad)
                have hb' : t = 1 ∨ (t ≠ 1 ∧ t ≤ i) := by omega
                clear hbad HRB HRE0 HRO0
                rcases hb' with hb1 | ⟨hb1, hb2⟩
                · subst hb1
                  go_wp2_with ((with_reducible show wpList _ _ _ (⟨none, .store 38 _ _, _, _, _, _⟩ :: _) _ _); refine wpList_storeOwn rfl 38 _ _ rfl w.heap.size _ rfl rfl 38 _ HG4.out (by kernel_rfl) (by kernel_rfl) (by kernel_rfl) w HX4.out (Nat.le_refl _) ?_; intro wE HXE HGE)
                  rw [HR2.out]
                  exact bodyPost_ret (results_cellSlot rfl _ wE w.heap.size 38 _ (0, 0) _ rfl HGE.out Try.underlying38 rfl (by kernel_rfl)) rfl ⟨none, 0, rfl, Segs.nil _ _, Nat.le_refl _, by decide, HXE⟩
                · have hb3 : (t == 1) = false := by simp [hb1]
                  clear hb1
                  go_wp2_with ((with_reducible show wpList _ _ _ (⟨none, .store 38 _ _, _, _, _, _⟩ :: _) _ _); refine wpList_storeOwn rfl 38 _ _ rfl w.heap.size _ rfl rfl 38 _ HG4.out (by kernel_rfl) (by kernel_rfl) (by kernel_rfl) w HX4.out (Nat.le_refl _) ?_; intro wE HXE HGE)
                  rw [HR2.out]
                  exact bodyPost_ret (results_cellSlot rfl _ wE w.heap.size 38 _ (0, 0) _ rfl HGE.out Try.underlying38 rfl (by kernel_rfl)) rfl ⟨none, 0, rfl, Segs.nil _ _, Nat.le_refl _, by decide, HXE⟩
              · have HRE := Lib.hid (HRE0.out hbad)
                have HRO := Lib.hid (HRO0.out hbad)
                have hb3 : (t == 1) = false := by rw [beq_eq_false_iff_ne]; intro h; exact hbad (Or.inl h)
                have hb4 : ¬ t ≤ i := fun h => hbad (Or.inr h)
                have HLD : Hid ((B.drop 20).length = 8 * j - 20) := by show _ = _; rw [List.length_drop, HBL.out]
                clear hbad HRB HRE0 HRO0
                go_wp2_with fail
                refine (decode_any _ (8 * j - 20) (bc - 20) (B.drop 20) K W4 HLD.out (by omega) (by intro h; have hb0 : bo = none := (by simpa using h); have := hn1 hb0; omega) (by rw [bools_drop]; exact HB4.out.dropped 20 (fun h2 => by rw [length_bools, HBL.out] at h2; first | rfl | (rw [if_neg (by omega)])))).mono ?_
                rw [HDE.out]
                rintro e wD ⟨so, sc, rfl, hsD, hcD, hmD, hxD⟩
                simp only at hsD hcD ⊢
                have HGBD := Lib.hid (hxD.old HGB4.out)
                have HGD := Lib.hid (hxD.old HG4.out)
                have HXD := Lib.hid ((HX4.out).trans hxD)
                have c0 : wD.cell? ⟨g1, 0, none⟩ = some (.slice none 0 0) := by rw [cell_of_row _ _ _ _ _ _ HGBD.out]; rfl
                have fz : wD.frozen? ⟨g1, 0, none⟩ = false := frozen_of_row _ _ 0 _ _ HGBD.out
                have HSD := Lib.hid hsD
                clear hsD hxD
                obtain ⟨WE, hWE⟩ : ∃ WE, WE = wD.setCell ⟨g1, 0, none⟩ (.slice so ld.length sc) := ⟨_, rfl⟩
                have HWE := Lib.hid hWE
                have HGE1 : Hid (WE.heap[w.heap.size]? = some (.cells #[.slice none 0 0, .int .i64 0, .int .i64 0, .int .i64 0] 38 (0, 0))) := by
                  rw [hWE]; exact (Below.heap_setCell _ _ _ _ (by have := HSG.out; simp only; omega)).trans HGD.out
                have HXE1 : Hid (Ext w WE) := by rw [hWE]; exact HXD.out.set (Nat.le_of_lt HSG.out) _ _
                have HRE1 : Hid (Row WE (some ⟨g1, 0, none⟩) [.slice so ld.length sc, .int .i64 i, .int .i64 t, .int .i64 p]) := by
                  rw [hWE]
                  exact row_heap (heap_setS wD g1 _ (.slice so ld.length sc) [.int .i64 i, .int .i64 t, .int .i64 p] _ HGBD.out)
                have HSE1 : Hid (SegsN WE (W4).heap.size so ld) := by
                  rw [hWE]
                  exact HSD.out.kept (fun k hk _ => Below.heap_setCell _ _ _ _ (by have : g1 < (W4).heap.size := (Array.getElem?_eq_some_iff.1 HGB4.out).1; simp only; omega))
                have HGW : Hid (w.heap.size < (W4).heap.size) := (Array.getElem?_eq_some_iff.1 HG4.out).1
                clear hWE
                by_cases hE0 : E = 0
                case neg =>
                  have HR9 := Lib.hid (HRE.out hE0)
                  have hne9 : (E != 0) = true := by simp [hE0]
                  clear hE0
                  rw [HWE.out] at HGE1 HXE1
                  go_wp2_with ((with_reducible show wpList _ _ _ (⟨none, .store 38 _ _, _, _, _, _⟩ :: _) _ _); refine wpList_storeOwn rfl 38 _ _ rfl w.heap.size _ rfl rfl 38 _ HGE1.out (by kernel_rfl) (by kernel_rfl) (by kernel_rfl) w HXE1.out (Nat.le_refl _) ?_; intro wE HXE HGE)
                  rw [HR9.out]
                  exact bodyPost_ret (results_cellSlot rfl _ wE w.heap.size 38 _ (0, 0) _ rfl HGE.out Try.underlying38 rfl (by kernel_rfl)) rfl ⟨none, 0, rfl, Segs.nil _ _, Nat.le_refl _, by decide, HXE⟩
                case pos =>
                  have HR9 := Lib.hid (HRO.out hE0)
                  subst hE0
                  rw [HWE.out] at HGE1 HXE1 HRE1 HSE1
                  have HON : Hid (([.slice so ld.length sc, .int .i64 i, .int .i64 t, .int .i64 p] : List Value).toArray.all (·.oneCell') = true) := by show _ = _; simp [Value.oneCell']
                  go_wp2_with (first | ((with_reducible show wpList _ _ _ (⟨some 95, _, _, _, _, _⟩ :: _) _ _); refine wpList_loadAgg rfl 38 _ rfl _ Try.underlying38 rfl _ rfl [.slice so ld.length sc, .int .i64 i, .int .i64 t, .int .i64 p] HRE1.out (by kernel_rfl) ?_) | ((with_reducible show wpList _ _ _ (⟨none, .store 38 _ _, _, _, _, _⟩ :: _) _ _); refine wpList_storeOwnK rfl 38 _ _ rfl w.heap.size _ rfl rfl 38 _ HGE1.out Try.sizeMsg (by rfl) HON.out w HXE1.out (Nat.le_refl _) ?_; intro wE HXE HGE HKE))
                  rw [HR9.out]
                  exact bodyPost_ret (results_cellSlot rfl _ wE w.heap.size 38 _ (0, 0) _ rfl HGE.out Try.underlying38 rfl (by kernel_rfl)) rfl ⟨so, sc, rfl, (HSE1.out.kept (fun k hk _ => HKE.out k (by have := HGW.out; omega))).segs, hcD, hmD, HXE⟩

end Go.Proofs.Ytbfcgggcdmafoaa
