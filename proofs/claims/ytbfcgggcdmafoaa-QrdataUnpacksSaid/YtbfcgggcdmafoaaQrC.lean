/-
  Contracts of qrdata.Header, and of the reference's number, value and Header.
  Conditions: lengths fit.
-/
import Derived.Test.YtbfcgggcdmafoaaQrA
import Derived.Deep.LoopGhost
namespace Go.Proofs.Ytbfcgggcdmafoaa
open Go.RowKit Go.Bs Go.Mode

/-- A header: index, total, parity. -/
def hdBits (i t p : Int) : List Bool := lowBits 3 4 ++ lowBits i 4 ++ lowBits (t - 1) 4 ++ lowBits p 8
def hdRes (i t p : Int) : List Bool × Int :=
  if i = 0 ∧ t = 0 ∧ p = 0 then ([], 0) else if t < 2 ∨ 16 < t ∨ i < 0 ∨ t ≤ i ∨ p < 0 ∨ 255 < p then ([], 3) else (hdBits i t p, 0)
theorem length_hdBits (i t p : Int) : (hdBits i t p).length = 20 := by simp [hdBits, length_lowBits]

/-- A slice of the call's own and an error code. -/
def OwnSl (t : TypeId) (w : World) (p : List Value × Int) (e : Ending) (w' : World) : Prop :=
  ∃ s, e = .returned (.tuple #[s, .int .i64 p.2]) ∧ w'.ownsRow w.heap.size t 1 s p.1.length p.1 ∧ Ext w w'

theorem hd_cases (i t p : Int) : (i = 0 ∧ t = 0 ∧ p = 0) ∨ (¬ (i = 0 ∧ t = 0 ∧ p = 0) ∧ (t < 2 ∨ (2 ≤ t ∧ 16 < t) ∨ (2 ≤ t ∧ t ≤ 16 ∧ i < 0) ∨ (2 ≤ t ∧ t ≤ 16 ∧ 0 ≤ i ∧ t ≤ i) ∨ (2 ≤ t ∧ t ≤ 16 ∧ 0 ≤ i ∧ i < t ∧ p < 0) ∨ (2 ≤ t ∧ t ≤ 16 ∧ 0 ≤ i ∧ i < t ∧ 0 ≤ p ∧ 255 < p))) ∨ (2 ≤ t ∧ t ≤ 16 ∧ 0 ≤ i ∧ i < t ∧ 0 ≤ p ∧ p ≤ 255) := by omega

set_option maxRecDepth 20000 in
set_option maxHeartbeats 800000 in
theorem header_any (i t p : Int) (w : World) (hi : -9223372036854775808 ≤ i ∧ i ≤ 9223372036854775807) (ht : -9223372036854775808 ≤ t ∧ t ≤ 9223372036854775807) (hp : -9223372036854775808 ≤ p ∧ p ≤ 9223372036854775807) :
    Calls Try.prog 9 #[.agg #[.int .i64 i, .int .i64 t, .int .i64 p]] w (OwnSl 4 w (bools (hdRes i t p).1, (hdRes i t p).2)) := by
  rcases hd_cases i t p with ⟨rfl, rfl, rfl⟩ | ⟨hne, hc⟩ | ⟨h1, h2, h3, h4, h5, h6⟩
  · go_enter Try.func9, Try.ntmps9
    go_wp2_with fail
    go_ret2
    exact ⟨_, rfl, World.ownsRow_nil _ _ _ _, Ext.alloc _ _⟩
  · rw [show hdRes i t p = ([], 3) from by unfold hdRes; rw [if_neg hne, if_pos (by omega)]]
    go_enter Try.func9, Try.ntmps9
    go_wp2_with fail
    all_goals first
      | (go_ret2; exact ⟨_, rfl, World.ownsRow_nil _ _ _ _, Ext.alloc _ _⟩)
      | (exfalso; omega)
  · have HR : Hid (hdRes i t p = (hdBits i t p, 0)) := by show _ = _; unfold hdRes; rw [if_neg (by omega), if_neg (by omega)]
    rw [HR.out]
    have HB0 : Hid (Buf (w.heap.size + 1) 49 ((w.alloc (.cells #[.int .i64 i, .int .i64 t, .int .i64 p] 23)).alloc (.cells #[.slice none 0 0] 49)) (.slice none 0 0) 0 [] []) := by
      refine ⟨?_, World.ownsRow_nil _ _ _ _⟩
      have := heap_alloc_new (w.alloc (.cells #[.int .i64 i, .int .i64 t, .int .i64 p] 23)) (.cells #[.slice none 0 0] 49)
      rwa [show (w.alloc (.cells #[.int .i64 i, .int .i64 t, .int .i64 p] 23)).heap.size = w.heap.size + 1 by simp] at this
    have htz : (t == 0) = false := by simp; omega
    go_enter Try.func9, Try.ntmps9
    go_wp2_with fail
    all_goals try (exfalso; omega)
    refine (number_any' _ _ _ 0 [] [] 3 4 _ (by omega) (by omega) HB0.out).mono ?_
    rintro e w1 ⟨s1, rfl, hb1, hx1⟩
    have a0 : w1.cell? ⟨w.heap.size, 0, none⟩ = some (.int .i64 i) := (hx1.cell (Nat.lt_succ_self _)).trans (by simp)
    have a1 : w1.cell? ⟨w.heap.size, 1, none⟩ = some (.int .i64 t) := (hx1.cell (Nat.lt_succ_self _)).trans (by simp)
    have a2 : w1.cell? ⟨w.heap.size, 2, none⟩ = some (.int .i64 p) := (hx1.cell (Nat.lt_succ_self _)).trans (by simp)
    have HX1 : Hid (Ext w w1) := ((Ext.alloc w _).trans (Ext.alloc _ _)).trans' hx1
    clear hx1
    have HB1 := Lib.hid hb1
    clear hb1
    go_wp2_with fail
    refine (number_any' _ _ _ _ _ [] i 4 _ (by omega) (by omega) HB1.out).mono ?_
    rintro e w2 ⟨s2, rfl, hb2, hx2⟩
    have b1 := (hx2.cell (p := ⟨w.heap.size, 1, none⟩) (Nat.lt_succ_self _)).trans a1
    have b2 := (hx2.cell (p := ⟨w.heap.size, 2, none⟩) (Nat.lt_succ_self _)).trans a2
    have HX2 := Lib.hid (HX1.out.trans' hx2)
    have HB2 := Lib.hid hb2
    clear hb2 hx2 a0 a1 a2
    go_wp2_with fail
    refine (number_any' _ _ _ _ _ [] (t - 1) 4 _ (by omega) (by omega) HB2.out).mono ?_
    rintro e w3 ⟨s3, rfl, hb3, hx3⟩
    have c2 := (hx3.cell (p := ⟨w.heap.size, 2, none⟩) (Nat.lt_succ_self _)).trans b2
    have HX3 := Lib.hid (HX2.out.trans' hx3)
    have HB3 := Lib.hid hb3
    clear hb3 hx3 b1 b2
    go_wp2_with fail
    refine (number_any' _ _ _ _ _ [] p 8 _ (by omega) (by omega) HB3.out).mono ?_
    rintro e w4 ⟨s4, rfl, hb4, hx4⟩
    have HX4 := Lib.hid (HX3.out.trans' hx4)
    have z0 := hb4.cell0
    have HO : Hid (w4.ownsRow w.heap.size 4 1 s4 20 (bools (hdBits i t p))) := own_base hb4.2 (by omega)
    obtain ⟨so, sc, rfl, _⟩ := own_row hb4.2
    clear hb4 hx4 c2
    go_wp2_with fail
    go_ret2
    refine ⟨_, rfl, ?_, HX4.out⟩
    rw [length_bools, length_hdBits]
    exact HO.out

/-- A row of the call's own is returned. -/
def OwnRow (t : TypeId) (w : World) (cs : List Value) (e : Ending) (w' : World) : Prop :=
  ∃ s, e = .returned s ∧ w'.ownsRow w.heap.size t 1 s cs.length cs ∧ Ext w w'

theorem fill_back (L : List Value) (z v : Value) (k : Nat) (h : L[k]? = some v) : (List.replicate (k + 1) z ++ L.drop (k + 1)).set k v = List.replicate k z ++ L.drop k := by
  obtain ⟨hk, hv⟩ := List.getElem?_eq_some_iff.1 h
  rw [List.replicate_succ', List.append_assoc, List.set_append, if_neg (by simp), List.length_replicate, Nat.sub_self]
  simp only [List.cons_append, List.nil_append, List.set_cons_zero]
  rw [List.drop_eq_getElem_cons hk, hv]

set_option maxRecDepth 20000 in
set_option maxHeartbeats 800000 in
theorem rnumber_any (v : Int) (n : Nat) (w : World) (hv : 0 ≤ v) (hv2 : v ≤ 4611686018427387904) (hn : n ≤ 62) :
    Calls Try.prog 24 #[.int .i64 v, .int .i64 n] w (OwnRow 4 w (bools (lowBits v n))) := by
  obtain ⟨L, hL⟩ : ∃ L, L = bools (lowBits v n) := ⟨_, rfl⟩
  have HL := Lib.hid hL
  have HLL : Hid (L.length = n) := by show _ = _; rw [hL, length_bools, length_lowBits]
  rw [← hL]
  clear hL
  go_enter Try.func24, Try.ntmps24
  go_wp2_with (at_make; refine wpList_make (ws := w) rfl _ _ 24 rfl w.heap.size 4 (.bool false) 1 Try.infoBool rfl Try.underlying24 _ _ _ _ rfl rfl n n rfl rfl (Nat.le_refl _) (by omega) (by omega) (Below.refl _ _) (Nat.le_refl _) ?_; intro w1 hown1 hb1 _)
  go_loopw [0, 6] (fun x i wr => ∃ k : Nat, k ≤ n ∧ i = .int .i64 ((k : Int) - 1) ∧ x = .int .i64 (v / 2 ^ (n - k)) ∧ wr.ownsRow w.heap.size 4 1 (.slice (some ⟨w.heap.size, 0, none⟩) n n) n (List.replicate k (.bool false) ++ L.drop k) ∧ Below w.heap.size w wr)
     (fun _ i _ => (intOf i + 1).toNat)
  case atStart => exact ⟨n, Nat.le_refl _, rfl, by simp, by rw [List.drop_of_length_le (by rw [HLL.out]; exact Nat.le_refl _), List.append_nil]; exact hown1, hb1⟩
  case round =>
    clear hown1 hb1
    obtain ⟨k, hk, rfl, rfl, hown, hbel⟩ := hrel
    rcases k with _ | k
    · go_wp2_with fail
      go_ret
      refine ⟨_, rfl, ?_, hbel⟩
      rw [HLL.out]
      simpa using hown
    · obtain ⟨hc, hf⟩ := own_cell hown k (.bool false) (by rw [List.getElem?_append_left (by simp)]; simp)
      have hV0 : 0 ≤ v / 2 ^ (n - (k + 1)) := Int.ediv_nonneg hv (Int.pow_nonneg (by decide))
      have hV1 : v / 2 ^ (n - (k + 1)) ≤ 4611686018427387904 := Int.le_trans (Int.ediv_le_self _ hv) hv2
      have HB : Hid (L[k]? = some (.bool (bitOf v (n - (k + 1))))) := by
        show _ = _
        rw [HL.out, bools_at _ _ (by rw [length_lowBits]; omega)]
        simp [lowBits, lowFrom, Nat.sub_sub, Nat.add_comm]
      have HD : Hid (v / 2 ^ (n - (k + 1)) / 2 = v / 2 ^ (n - k)) := by
        show _ = _
        rw [show n - k = n - (k + 1) + 1 by omega, Int.pow_succ, Int.ediv_ediv_of_nonneg (Int.pow_nonneg (by decide))]
      have HBB : Hid (bitOf v (n - (k + 1)) = (v / 2 ^ (n - (k + 1)) % 2 == 1)) := rfl
      obtain ⟨V, hV⟩ : ∃ V, V = v / 2 ^ (n - (k + 1)) := ⟨_, rfl⟩
      rw [← hV] at hV0 hV1 HD HBB ⊢
      clear hV
      have q1 : V.tmod 2 = V % 2 := Int.tmod_eq_emod_of_nonneg hV0
      have q2 : V.tdiv 2 = V / 2 := Int.tdiv_eq_ediv_of_nonneg hV0
      go_wp2_with fail
      refine ⟨⟨k, by omega, rfl, by rw [HD.out], ?_, hbel.setCell (Nat.le_refl _) _⟩, by simp [intOf]⟩
      have := (hown.stored k (.bool (V % 2 == 1))).1
      rwa [fill_back L _ _ k (by rw [HB.out, HBB.out])] at this

set_option maxHeartbeats 800000 in
theorem rvalue_any (ao : Option Addr) (len cap : Nat) (xs : List Bool) (w : World) (hl : xs.length = len) (hb : len ≤ 60) (hr : Row w ao (bools xs)) :
    Calls Try.prog 27 #[.slice ao len cap] w fun e w' => e = .returned (.int .i64 (num xs)) ∧ w = w' := by
  have HL := Lib.hid hl
  have hle : len ≤ xs.length := by omega
  clear hl
  go_enter Try.func27, Try.ntmps27
  go_wp2_with fail
  go_loop [3, 4] (fun v i => ∃ k : Nat, k ≤ len ∧ i = .int .i64 k ∧ v = .int .i64 (num (xs.take k))) (fun _ i => len - (intOf i).toNat)
  case atStart => exact ⟨0, Nat.zero_le _, rfl, rfl⟩
  case round =>
    obtain ⟨k, hk, rfl, rfl⟩ := hrel
    by_cases hlt : k < len
    · obtain ⟨a, rfl, hc⟩ := hr.at (bools_at xs k (by omega))
      have hbd := num_take_bd xs k (by omega)
      have HN := Lib.hid (num_take xs k (by omega))
      obtain ⟨V, hV⟩ : ∃ V, V = num (xs.take k) := ⟨_, rfl⟩
      rw [← hV] at hbd HN ⊢
      clear hV
      cases hx : xs[k]'(by omega)
      · rw [hx] at hc HN
        go_wp2_with fail
        go_round
        case rel => exact ⟨k + 1, by omega, int_eq (by omega), int_eq (by rw [HN.out]; simp)⟩
        case measure => simp [intOf]; omega
      · rw [hx] at hc HN
        go_wp2_with fail
        go_round
        case rel => exact ⟨k + 1, by omega, int_eq (by omega), int_eq (by rw [HN.out]; simp)⟩
        case measure => simp [intOf]; omega
    · obtain rfl : k = len := by omega
      have HT : Hid (xs.take k = xs) := List.take_of_length_le (by rw [HL.out]; exact Nat.le_refl _)
      go_wp2_with fail
      go_ret
      exact ⟨by rw [HT.out]; rfl, rfl⟩

set_option maxRecDepth 20000 in
set_option maxHeartbeats 1600000 in
theorem rheader_any (i t p : Int) (w : World) (hi : -9223372036854775808 ≤ i ∧ i ≤ 9223372036854775807) (ht : -9223372036854775808 ≤ t ∧ t ≤ 9223372036854775807) (hp : -9223372036854775808 ≤ p ∧ p ≤ 9223372036854775807) :
    Calls Try.prog 10 #[.agg #[.int .i64 i, .int .i64 t, .int .i64 p]] w (OwnSl 4 w (bools (hdRes i t p).1, (hdRes i t p).2)) := by
  rcases hd_cases i t p with ⟨rfl, rfl, rfl⟩ | ⟨hne, hc⟩ | ⟨h1, h2, h3, h4, h5, h6⟩
  · go_enter Try.func10, Try.ntmps10
    go_wp2_with fail
    go_ret2
    exact ⟨_, rfl, World.ownsRow_nil _ _ _ _, Ext.alloc _ _⟩
  · rw [show hdRes i t p = ([], 3) from by unfold hdRes; rw [if_neg hne, if_pos (by omega)]]
    go_enter Try.func10, Try.ntmps10
    go_wp2_with fail
    all_goals first
      | (go_ret2; exact ⟨_, rfl, World.ownsRow_nil _ _ _ _, Ext.alloc _ _⟩)
      | (exfalso; omega)
  · have HR : Hid (hdRes i t p = (hdBits i t p, 0)) := by show _ = _; unfold hdRes; rw [if_neg (by omega), if_neg (by omega)]
    rw [HR.out]
    have htz : (t == 0) = false := by simp; omega
    have htz' : t ≠ 0 := by omega
    obtain ⟨W, hW⟩ : ∃ W, W = w.alloc (.cells #[.int .i64 i, .int .i64 t, .int .i64 p] 23) := ⟨_, rfl⟩
    have a0 : W.cell? ⟨w.heap.size, 0, none⟩ = some (.int .i64 i) := by rw [hW]; simp
    have a1 : W.cell? ⟨w.heap.size, 1, none⟩ = some (.int .i64 t) := by rw [hW]; simp
    have a2 : W.cell? ⟨w.heap.size, 2, none⟩ = some (.int .i64 p) := by rw [hW]; simp
    have hwW : Ext w W := by rw [hW]; exact Ext.alloc _ _
    have hsW : w.heap.size < W.heap.size := by rw [hW]; simp
    have hWW : w.heap.size ≤ W.heap.size := by omega
    go_enter Try.func10, Try.ntmps10
    go_wp2_with fail
    all_goals try (exfalso; omega)
    rw [← hW]
    clear hW
    obtain ⟨g, hg⟩ : ∃ g, g = w.heap.size := ⟨_, rfl⟩
    rw [← hg] at a0 a1 a2 hsW ⊢
    have HG := Lib.hid hg
    have hWg : g ≤ W.heap.size := by omega
    clear hg
    refine (rnumber_any 3 4 W (by omega) (by omega) (by omega)).mono ?_
    rintro e w1 ⟨s1, rfl, hown1, hx1⟩
    rw [length_bools, length_lowBits] at hown1
    have b0 := hx1.cell a0
    have b1 := hx1.cell a1
    have b2 := hx1.cell a2
    have HX1 := Lib.hid (hwW.trans hx1)
    have HO1 := Lib.hid (own_below hown1 hsW)
    have hs1 : g < w1.heap.size := Nat.lt_of_lt_of_le hsW hx1.size
    have hWs : W.heap.size ≤ w1.heap.size := hx1.size
    clear a0 a1 a2 hwW hx1
    try (go_wp2_with fail)
    refine (rnumber_any (i) 4 w1 (by omega) (by omega) (by omega)).mono ?_
    rintro e wn ⟨sn, rfl, hownn, hxn⟩
    obtain ⟨on, cn, rfl, hcn, hmn, _, hrn⟩ := own_row hownn
    have hnn : on = none → cn = 0 := by
      intro ha
      subst ha
      rcases hownn.2 with ⟨hv, _⟩ | ⟨g', cap', cur, hv, _⟩
      · simp at hv; exact hv.2
      · simp at hv
    rw [length_bools, length_lowBits]
    have HRN := Lib.hid hrn
    clear hownn hrn
    have hown' := own_extN hown1 hxn
    have hWn : W.heap.size ≤ wn.heap.size := Nat.le_trans hWs hxn.size
    go_wp2_with (at_builtin; refine wpList_app rfl _ _ 24 rfl W.heap.size 4 (.bool false) 1 1 Try.infoBool rfl (by decide) Try.underlying24 _ rfl 4 _ hown' _ 4 cn rfl (bools (lowBits (i) 4)) HRN.out (by rw [length_bools, length_lowBits]) hnn (bools_oneCell _) (by omega) (by omega) hWn ?_; intro s2 w2 hown2 hkn; (have c1 := ((Keep.ofExt hxn s1).trans hkn).cell b1 HO1.out); (have c2 := ((Keep.ofExt hxn s1).trans hkn).cell b2 HO1.out))
    rw [← bools_append] at hown2
    have HX2 : Hid (Ext w w2) := Below.trans HX1.out (((Keep.ofExt hxn s1).trans hkn).below (Below.size HX1.out) (fun k hk => Nat.le_trans hWW ((hown1.lt k hk).1)))
    have HO2 := Lib.hid (((Keep.ofExt hxn s1).trans hkn).away hs1 HO1.out)
    have hs2 : g < w2.heap.size := Nat.lt_of_lt_of_le hs1 (Nat.le_trans hxn.size hkn.size)
    have hWs2 : W.heap.size ≤ w2.heap.size := Nat.le_trans hWn hkn.size
    clear hown' hown1 HRN
    clear hkn hxn b0 b1 b2
    try (go_wp2_with fail)
    refine (rnumber_any (t - 1) 4 w2 (by omega) (by omega) (by omega)).mono ?_
    rintro e wn ⟨sn, rfl, hownn, hxn⟩
    obtain ⟨on, cn, rfl, hcn, hmn, _, hrn⟩ := own_row hownn
    have hnn : on = none → cn = 0 := by
      intro ha
      subst ha
      rcases hownn.2 with ⟨hv, _⟩ | ⟨g', cap', cur, hv, _⟩
      · simp at hv; exact hv.2
      · simp at hv
    rw [length_bools, length_lowBits]
    have HRN := Lib.hid hrn
    clear hownn hrn
    have hown' := own_extN hown2 hxn
    have hWn : W.heap.size ≤ wn.heap.size := Nat.le_trans hWs2 hxn.size
    go_wp2_with (at_builtin; refine wpList_app rfl _ _ 24 rfl W.heap.size 4 (.bool false) 1 1 Try.infoBool rfl (by decide) Try.underlying24 _ rfl 8 _ hown' _ 4 cn rfl (bools (lowBits (t - 1) 4)) HRN.out (by rw [length_bools, length_lowBits]) hnn (bools_oneCell _) (by omega) (by omega) hWn ?_; intro s3 w3 hown3 hkn; (have d2 := ((Keep.ofExt hxn s2).trans hkn).cell c2 HO2.out))
    rw [← bools_append] at hown3
    have HX3 : Hid (Ext w w3) := Below.trans HX2.out (((Keep.ofExt hxn s2).trans hkn).below (Below.size HX2.out) (fun k hk => Nat.le_trans hWW ((hown2.lt k hk).1)))
    have HO3 := Lib.hid (((Keep.ofExt hxn s2).trans hkn).away hs2 HO2.out)
    have hs3 : g < w3.heap.size := Nat.lt_of_lt_of_le hs2 (Nat.le_trans hxn.size hkn.size)
    have hWs3 : W.heap.size ≤ w3.heap.size := Nat.le_trans hWn hkn.size
    clear hown' hown2 HRN
    clear hkn hxn c1 c2
    try (go_wp2_with fail)
    refine (rnumber_any (p) 8 w3 (by omega) (by omega) (by omega)).mono ?_
    rintro e wn ⟨sn, rfl, hownn, hxn⟩
    obtain ⟨on, cn, rfl, hcn, hmn, _, hrn⟩ := own_row hownn
    have hnn : on = none → cn = 0 := by
      intro ha
      subst ha
      rcases hownn.2 with ⟨hv, _⟩ | ⟨g', cap', cur, hv, _⟩
      · simp at hv; exact hv.2
      · simp at hv
    rw [length_bools, length_lowBits]
    have HRN := Lib.hid hrn
    clear hownn hrn
    have hown' := own_extN hown3 hxn
    have hWn : W.heap.size ≤ wn.heap.size := Nat.le_trans hWs3 hxn.size
    go_wp2_with (at_builtin; refine wpList_app rfl _ _ 24 rfl W.heap.size 4 (.bool false) 1 1 Try.infoBool rfl (by decide) Try.underlying24 _ rfl 12 _ hown' _ 8 cn rfl (bools (lowBits (p) 8)) HRN.out (by rw [length_bools, length_lowBits]) hnn (bools_oneCell _) (by omega) (by omega) hWn ?_; intro s4 w4 hown4 hkn; skip)
    rw [← bools_append] at hown4
    have HX4 : Hid (Ext w w4) := Below.trans HX3.out (((Keep.ofExt hxn s3).trans hkn).below (Below.size HX3.out) (fun k hk => Nat.le_trans hWW ((hown3.lt k hk).1)))
    have HO4 := Lib.hid (((Keep.ofExt hxn s3).trans hkn).away hs3 HO3.out)
    have hs4 : g < w4.heap.size := Nat.lt_of_lt_of_le hs3 (Nat.le_trans hxn.size hkn.size)
    have hWs4 : W.heap.size ≤ w4.heap.size := Nat.le_trans hWn hkn.size
    clear hown' hown3 HRN
    clear hkn hxn d2
    go_ret2
    refine ⟨_, rfl, ?_, HX4.out⟩
    rw [length_bools, length_hdBits]
    exact own_base hown4 hWW

end Go.Proofs.Ytbfcgggcdmafoaa
