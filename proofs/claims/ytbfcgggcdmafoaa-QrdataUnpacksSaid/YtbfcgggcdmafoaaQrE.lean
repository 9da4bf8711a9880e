/-
  Contracts of qrdata.Pack.
  Conditions: the slices' cells are those of the lists.
-/
import Derived.Test.YtbfcgggcdmafoaaQrD
import Derived.Test.YtbfcgggcdmafoaaVerF
namespace Go.Proofs.Ytbfcgggcdmafoaa
open Go.RowKit Go.Bs Go.Mode Go.Qr

def pkRes (l : List SegD) (i t p v lv : Int) : List Int × Int :=
  if (cpRes v lv).2 ≠ 0 then ([], (cpRes v lv).2) else if (hdRes i t p).2 ≠ 0 then ([], (hdRes i t p).2) else if (clRes v).2 ≠ 0 then ([], (clRes v).2)
  else if (encRes l (clRes v).1).2 ≠ 0 then ([], (encRes l (clRes v).1).2) else padRes ((hdRes i t p).1 ++ (encRes l (clRes v).1).1) (cpRes v lv).1

theorem pk1 {l : List SegD} {i t p v lv C E : Int} (h : cpRes v lv = (C, E)) (hE : E ≠ 0) : pkRes l i t p v lv = ([], E) := by unfold pkRes; rw [h, if_pos hE]
theorem pk2 {l : List SegD} {i t p v lv C E : Int} {hb : List Bool} (h : cpRes v lv = (C, 0)) (h2 : hdRes i t p = (hb, E)) (hE : E ≠ 0) : pkRes l i t p v lv = ([], E) := by
  unfold pkRes; rw [h, h2, if_neg (by simp), if_pos hE]
theorem pk3 {l : List SegD} {i t p v lv C K E : Int} {hb : List Bool} (h : cpRes v lv = (C, 0)) (h2 : hdRes i t p = (hb, 0)) (h3 : clRes v = (K, E)) (hE : E ≠ 0) : pkRes l i t p v lv = ([], E) := by
  unfold pkRes; rw [h, h2, h3, if_neg (by simp), if_neg (by simp), if_pos hE]
theorem pk4 {l : List SegD} {i t p v lv C K E : Int} {hb eb : List Bool} (h : cpRes v lv = (C, 0)) (h2 : hdRes i t p = (hb, 0)) (h3 : clRes v = (K, 0)) (h4 : encRes l K = (eb, E)) (hE : E ≠ 0) : pkRes l i t p v lv = ([], E) := by
  unfold pkRes; rw [h, h2, h3, if_neg (by simp), if_neg (by simp), if_neg (by simp)]; simp only [h4]; rw [if_pos hE]
theorem pk5 {l : List SegD} {i t p v lv C K : Int} {hb eb : List Bool} (h : cpRes v lv = (C, 0)) (h2 : hdRes i t p = (hb, 0)) (h3 : clRes v = (K, 0)) (h4 : encRes l K = (eb, 0)) : pkRes l i t p v lv = padRes (hb ++ eb) C := by
  unfold pkRes; rw [h, h2, h3, if_neg (by simp), if_neg (by simp), if_neg (by simp)]; simp only [h4]; rw [if_neg (by simp)]

theorem hd_len (i t p : Int) : (hdRes i t p).1.length ≤ 20 := by
  unfold hdRes; split
  · simp
  · split
    · simp
    · rw [length_hdBits]; exact Nat.le_refl _
theorem length_encS (k : Nat) (q : SegD) (h : okMode q.1 = true) : (encS k q).length = segB q.1 k q.2.length := by
  unfold encS segB; simp only [List.length_append, length_lowBits, length_encD q.1 h q.2.length q.2 rfl]; omega
theorem length_encs (k : Nat) (l : List SegD) (h : ∀ q ∈ l, okMode q.1 = true) : (l.flatMap (encS k)).length = total k l := by
  induction l using snoc_ind with
  | h0 => rfl
  | h1 l q ih => rw [List.flatMap_append, List.length_append, total_snoc, ih (fun x hx => h x (by simp [hx]))]; simp [length_encS k q (h q (by simp))]
theorem enc_len (l : List SegD) (c : Int) : (encRes l c).1.length ≤ 1048576 := by
  obtain ⟨T, E, hTE⟩ : ∃ T E, bitsRes l c = (T, E) := ⟨_, _, rfl⟩
  unfold encRes
  rw [hTE]
  by_cases hE : E = 0
  · subst hE
    obtain ⟨k, rfl, hk, hok, h4, hlen, hfit, htot, rfl⟩ := bits_inv hTE
    simp only [if_true, Int.toNat_natCast]
    rw [length_encs k l (fun q hq => (List.all_eq_true.1 hok) q hq)]
    exact htot
  · simp [hE]

theorem own_nil {w : World} {B : Nat} {e : TypeId} {ao : Option Addr} {n cap : Nat} {xs : List Value} (h : w.ownsRow B e 1 (.slice ao n cap) n xs) : ao = none → cap = 0 := by
  intro ha
  subst ha
  rcases h.2 with ⟨hv, _⟩ | ⟨g', cap', cur, hv, _⟩
  · simp at hv; exact hv.2
  · simp at hv

def i64r (x : Int) : Prop := -9223372036854775808 ≤ x ∧ x ≤ 9223372036854775807

set_option maxRecDepth 20000 in
set_option maxHeartbeats 1600000 in
theorem pack_any (ao : Option Addr) (len cap : Nat) (l : List SegD) (i t p v lv : Int) (w : World) (hl : l.length = len) (hc : len ≤ cap) (hm : cap ≤ 9223372036854775807) (hr : Segs w ao l) (hi : i64r i) (ht : i64r t) (hp : i64r p) :
    Calls Try.prog 16 #[.agg #[.slice ao len cap, .int .i64 i, .int .i64 t, .int .i64 p], .int .i64 v, .int .i64 lv] w (RetSl w (ints (pkRes l i t p v lv).1, (pkRes l i t p v lv).2)) := by
  obtain ⟨C, E1, h1⟩ : ∃ C E1, cpRes v lv = (C, E1) := ⟨_, _, rfl⟩
  obtain ⟨hb, E2, h2⟩ : ∃ hb E2, hdRes i t p = (hb, E2) := ⟨_, _, rfl⟩
  obtain ⟨K, E3, h3⟩ : ∃ K E3, clRes v = (K, E3) := ⟨_, _, rfl⟩
  obtain ⟨eb, E4, h4⟩ : ∃ eb E4, encRes l K = (eb, E4) := ⟨_, _, rfl⟩
  have HHL : Hid (hb.length ≤ 20) := by have := hd_len i t p; rw [h2] at this; exact this
  have HEL : Hid (eb.length ≤ 1048576) := by have := enc_len l K; rw [h4] at this; exact this
  have HL := Lib.hid hl
  have hb20 : hb.length ≤ 20 := HHL.out
  have heb20 : eb.length ≤ 1048576 := HEL.out
  have H1 := Lib.hid h1
  have H2 := Lib.hid h2
  have H3 := Lib.hid h3
  have H4 := Lib.hid h4
  have HI := Lib.hid hi
  have HT := Lib.hid ht
  have HP := Lib.hid hp
  clear h1 h2 h3 h4 hl hi ht hp
  obtain ⟨R, hR⟩ : ∃ R, R = pkRes l i t p v lv := ⟨_, rfl⟩
  have HR := Lib.hid hR
  rw [← hR]
  clear hR
  obtain ⟨g, hg⟩ : ∃ g, g = w.heap.size := ⟨_, rfl⟩
  have HA : Hid (Row (w.alloc (.cells #[.slice ao len cap, .int .i64 i, .int .i64 t, .int .i64 p] 38)) (some ⟨g, 1, none⟩) [.int .i64 i, .int .i64 t, .int .i64 p]) := by
    have := Row.block (heap_alloc_new w (.cells #[.slice ao len cap, .int .i64 i, .int .i64 t, .int .i64 p] 38)) 1 3
    rw [hg]
    exact this
  have a0 : (w.alloc (.cells #[.slice ao len cap, .int .i64 i, .int .i64 t, .int .i64 p] 38)).cell? ⟨g, 0, none⟩ = some (.slice ao len cap) := by rw [hg]; simp
  have A0 := Lib.hid a0
  have HG := Lib.hid hg
  clear a0
  go_enter Try.func16, Try.ntmps16
  go_wp2_with fail
  rw [← HG.out]
  refine (capacity_any v lv _).mono ?_
  rw [H1.out]
  rintro e w1 ⟨rfl, hx1⟩
  simp only [two]
  have HX1 := Lib.hid ((Ext.alloc w _).trans hx1)
  have HA1 := Lib.hid (HA.out.ext hx1)
  have A1 := Lib.hid (hx1.cell A0.out)
  clear HA A0 hx1 hg
  by_cases e1 : E1 = 0
  case neg =>
    have hne : (E1 != 0) = true := by simp [e1]
    have HR2 := Lib.hid (HR.out.trans (pk1 H1.out e1))
    clear e1
    go_wp2_with fail
    go_ret2
    rw [HR2.out]
    exact RetSl.nil _ _ _ HX1.out
  case pos =>
    subst e1
    go_wp2_with ((with_reducible show wpList _ _ _ (⟨some 24, _, _, _, _, _⟩ :: _) _ _); refine wpList_loadAgg rfl 23 _ rfl _ Try.underlying23 rfl _ rfl [.int .i64 i, .int .i64 t, .int .i64 p] HA1.out (by kernel_rfl) ?_)
    refine (header_any i t p _ HI.out HT.out HP.out).mono ?_
    rw [H2.out]
    rintro e w2 ⟨s2, rfl, hown2, hx2⟩
    rw [length_bools] at hown2
    obtain ⟨so, sc, rfl, hso, hsm, _, _⟩ := own_row hown2
    have HX2 := Lib.hid (HX1.out.trans hx2)
    have HOW2 := Lib.hid (own_base hown2 HX1.out.size)
    have A2 := Lib.hid (hx2.cell A1.out)
    clear HA1 A1 hx2 hown2 HX1
    by_cases e2 : E2 = 0
    case neg =>
      have hne : (E2 != 0) = true := by simp [e2]
      have HR2 := Lib.hid (HR.out.trans (pk2 H1.out H2.out e2))
      clear e2
      go_wp2_with fail
      go_ret2
      rw [HR2.out]
      exact RetSl.nil _ _ _ HX2.out
    case pos =>
      subst e2
      go_wp2_with fail
      refine (class_any v _).mono ?_
      rw [H3.out]
      rintro e w2' ⟨rfl, rfl⟩
      simp only [two]
      by_cases e3 : E3 = 0
      case neg =>
        have hne : (E3 != 0) = true := by simp [e3]
        have HR2 := Lib.hid (HR.out.trans (pk3 H1.out H2.out H3.out e3))
        clear e3
        go_wp2_with fail
        go_ret2
        rw [HR2.out]
        exact RetSl.nil _ _ _ HX2.out
      case pos =>
        subst e3
        have a2 := A2.out
        go_wp2_with fail
        refine (encode_any ao len cap l K _ HL.out hc hm (hr.ext HX2.out)).mono ?_
        rw [H4.out]
        intro e w3 hret
        obtain ⟨bo, bc, rfl, hr3, hc3, hm3, hn3, hx3⟩ := hret.bools
        have HX3 := Lib.hid (HX2.out.trans hx3)
        have hown3 := own_extN HOW2.out hx3
        clear hret a2
        by_cases e4 : E4 = 0
        case neg =>
          have hne : (E4 != 0) = true := by simp [e4]
          have HR2 := Lib.hid (HR.out.trans (pk4 H1.out H2.out H3.out H4.out e4))
          clear e4
          go_wp2_with fail
          go_ret2
          rw [HR2.out]
          exact RetSl.nil _ _ _ HX3.out
        case pos =>
          subst e4
          have HR2 := Lib.hid (HR.out.trans (pk5 H1.out H2.out H3.out H4.out))
          have hB3 := HX3.out.size
          go_wp2_with (at_builtin; refine wpList_app rfl _ _ 24 rfl w.heap.size 4 (.bool false) 1 1 Try.infoBool rfl (by decide) Try.underlying24 _ rfl _ _ hown3 _ _ bc rfl (bools eb) hr3 (by rw [length_bools]; omega) hn3 (bools_oneCell _) (by omega) (by omega) hB3 ?_; intro s4 w4 hown4 hk4; rw [← bools_append] at hown4; (obtain ⟨so4, sc4, rfl, hso4, hsm4, _, hsr4⟩ := own_row hown4); (have HN4 : Hid (so4 = none → sc4 = 0) := own_nil hown4); (have HX4 : Hid (Ext w w4) := Below.trans HX3.out (hk4.below hB3 (fun k hk => (hown3.lt k hk).1))); clear hown4 hk4)
          refine (pad_any so4 _ sc4 (hb ++ eb) C w4 (by simp) hso4 (by unfold maxLen at hsm4; omega) HN4.out hsr4).mono ?_
          intro e w5 hret
          obtain ⟨ro, rc, rfl, hr5, hc5, hm5, hn5, hx5⟩ := hret.ints
          clear hret
          go_wp2_with fail
          go_ret2
          rw [HR2.out]
          exact ⟨ro, rc, by rw [length_ints]; rfl, hr5, by rw [length_ints]; exact hc5, hm5, hn5, HX4.out.trans hx5⟩

end Go.Proofs.Ytbfcgggcdmafoaa
