/-
  The contract of modes.Decode.
  Conditions: the slice's cells are those of the list.
-/
import Derived.Test.YthebfpolijajgaaModeM
namespace Go.Proofs.Ythebfpolijajgaa
open Go.RowKit Go.Bs Go.Mode

theorem Try.infoSeg : (Try.prog.info? 33).map (fun i => (i.zero, i.size, i.bytes)) = some (some (.agg #[.int .i64 0, .slice none 0 0]), 2, 32) := by kernel_rfl

/-- The data of a segment in a row that is neither in block g nor in v's own. -/
def DatA (B : Nat) (w : World) (g : Nat) (v : Value) (u : Value) (d : List UInt8) : Prop :=
  ∃ ao cap, u = .slice ao d.length cap ∧ Row w ao (byts d) ∧ d.length ≤ cap ∧ cap ≤ 9223372036854775807 ∧ (ao = none → cap = 0) ∧ (∀ a, ao = some a → a.block ≠ g ∧ v.ownBlock ≠ some a.block ∧ a.block < w.heap.size ∧ B ≤ a.block)
def SegCells (B : Nat) (w : World) (g : Nat) (v : Value) (cells : List Value) (l : List SegD) : Prop :=
  ∀ i p, l[i]? = some p → ∃ u, cells[i * 2]? = some (.int .i64 p.1) ∧ cells[i * 2 + 1]? = some u ∧ DatA B w g v u p.2
theorem DatA.keep {B : Nat} {w w' : World} {g : Nat} {v v' u : Value} {d : List UInt8} (h : DatA B w g v u d) (hk : KeepG g w v w' v') : DatA B w' g v' u d := by
  obtain ⟨ao, cap, h1, h2, h3, h4, h5, h6⟩ := h
  exact ⟨ao, cap, h1, hk.row h2 (fun a ha => ⟨(h6 a ha).1, (h6 a ha).2.1⟩), h3, h4, h5, fun a ha => ⟨(h6 a ha).1, hk.own a.block (h6 a ha).2.2.1 (h6 a ha).2.1, Nat.lt_of_lt_of_le (h6 a ha).2.2.1 hk.size, (h6 a ha).2.2.2⟩⟩
theorem SegCells.keep {B : Nat} {w w' : World} {g : Nat} {v v' : Value} {cells : List Value} {l : List SegD} (h : SegCells B w g v cells l) (hk : KeepG g w v w' v') : SegCells B w' g v' cells l := by
  intro i p hi
  obtain ⟨u, h1, h2, h3⟩ := h i p hi
  exact ⟨u, h1, h2, h3.keep hk⟩
theorem SegCells.nil (B : Nat) (w : World) (g : Nat) (v : Value) : SegCells B w g v [] [] := by intro i p hi; simp at hi
theorem SegCells.snoc {B : Nat} {w : World} {g : Nat} {v : Value} {cells : List Value} {l : List SegD} {m : Int} {d : List UInt8} {u : Value} (h : SegCells B w g v cells l) (hl : cells.length = l.length * 2) (hd : DatA B w g v u d) : SegCells B w g v (cells ++ [.int .i64 m, u]) (l ++ [(m, d)]) := by
  intro i p hi
  by_cases hlt : i < l.length
  · rw [List.getElem?_append_left hlt] at hi
    obtain ⟨u', h1, h2, h3⟩ := h i p hi
    refine ⟨u', ?_, ?_, h3⟩
    · rw [List.getElem?_append_left (by omega)]; exact h1
    · rw [List.getElem?_append_left (by omega)]; exact h2
  · rw [List.getElem?_append_right (by omega)] at hi
    have hi0 : i = l.length := by
      have := (List.getElem?_eq_some_iff.1 hi).1
      simp at this
      omega
    subst hi0
    simp at hi
    subst hi
    refine ⟨u, ?_, ?_, hd⟩
    · rw [List.getElem?_append_right (by omega), hl, Nat.sub_self]; rfl
    · rw [List.getElem?_append_right (by omega), hl, show l.length * 2 + 1 - l.length * 2 = 1 by omega]; rfl

/-- Segments that lie in blocks from B on. -/
def SegsN (w : World) (B : Nat) (ao : Option Addr) (l : List SegD) : Prop :=
  ∀ (i : Nat) (p : SegD), l[i]? = some p → ∃ b off v, ao = some ⟨b, off, none⟩ ∧ B ≤ b ∧ w.cell? ⟨b, off + i * 2, none⟩ = some (.int .i64 p.1) ∧ w.cell? ⟨b, off + i * 2 + 1, none⟩ = some v ∧
    ∃ ao' cap, v = .slice ao' p.2.length cap ∧ Row w ao' (byts p.2) ∧ p.2.length ≤ cap ∧ cap ≤ 9223372036854775807 ∧ (ao' = none → cap = 0) ∧ (∀ a, ao' = some a → B ≤ a.block)
theorem SegsN.segs {w : World} {B : Nat} {ao : Option Addr} {l : List SegD} (h : SegsN w B ao l) : Segs w ao l := by
  intro i p hi
  obtain ⟨b, off, v, h1, _, h3, h4, ao', cap, h5, h6, h7, h8, h9, _⟩ := h i p hi
  exact ⟨b, off, v, h1, h3, h4, ao', cap, h5, h6, h7, h8, h9⟩
theorem SegsN.nil (w : World) (B : Nat) (ao : Option Addr) : SegsN w B ao [] := by intro i p h; simp at h
theorem SegsN.kept {w w' : World} {B : Nat} {ao : Option Addr} {l : List SegD} (h : SegsN w B ao l) (hk : ∀ k, B ≤ k → k < w.heap.size → w'.heap[k]? = w.heap[k]?) : SegsN w' B ao l := by
  intro i p hi
  obtain ⟨b, off, v, h1, h2, h3, h4, ao', cap, h5, h6, h7, h8, h9, h10⟩ := h i p hi
  have hb := World.block_lt_of_cell? w _ h3
  refine ⟨b, off, v, h1, h2, (World.cell?_of_block (w := w) (hk b h2 hb)).trans h3, (World.cell?_of_block (w := w) (hk b h2 hb)).trans h4, ao', cap, h5, ?_, h7, h8, h9, h10⟩
  intro j u hj
  obtain ⟨a, ha, hc⟩ := h6 j u hj
  have e : (a.add j).block = a.block := block_add a j
  have hlt := World.block_lt_of_cell? w _ hc
  exact ⟨a, ha, (World.cell?_of_block (w := w) (hk _ (by rw [e]; exact h10 a ha) hlt)).trans hc⟩

/-- Segments are returned, and an error's number. -/
def RetSegs (w : World) (p : List SegD × Int) (e : Ending) (w' : World) : Prop :=
  ∃ ao cap, e = .returned (.tuple #[.slice ao p.1.length cap, .int .i64 p.2]) ∧ SegsN w' w.heap.size ao p.1 ∧ p.1.length ≤ cap ∧ cap ≤ 9223372036854775807 ∧ Ext w w'
theorem RetSegs.nil (w w' : World) (c : Int) (h : Ext w w') : RetSegs w ([], c) (.returned (.tuple #[.slice none 0 0, .int .i64 c])) w' :=
  ⟨none, 0, rfl, SegsN.nil _ _ _, Nat.le_refl _, by decide, h⟩
theorem RetSegs.own {w w' : World} {B g : Nat} {e : TypeId} {v : Value} {cells : List Value} {l : List SegD} {c : Int} (h : w'.ownsRow B e 2 v l.length cells) (hB : w.heap.size ≤ B) (hs : SegCells w.heap.size w' g v cells l) (hx : Ext w w') :
    RetSegs w (l, c) (.returned (.tuple #[v, .int .i64 c])) w' := by
  rcases h.2 with ⟨rfl, hn⟩ | ⟨g', cap, cur, rfl, hb, hg, hnc, hcm, hcs, htake⟩
  · obtain rfl := List.eq_nil_of_length_eq_zero hn
    exact RetSegs.nil _ _ _ hx
  · refine ⟨some ⟨g', 0, none⟩, cap, rfl, ?_, hnc, by unfold maxLen at hcm; omega, hx⟩
    intro i p hi
    obtain ⟨u, h1, h2, ao, cp, h3, h4, h5, h6, h7, h8⟩ := hs i p hi
    have hi' : i < l.length := (List.getElem?_eq_some_iff.1 hi).1
    refine ⟨g', 0, u, rfl, Nat.le_trans hB hb, ?_, ?_, ao, cp, h3, h4, h5, h6, h7, fun a ha => (h8 a ha).2.2.2⟩
    · rw [Nat.zero_add, h.cellAt (i * 2) (by omega)]; exact h1
    · rw [Nat.zero_add, h.cellAt (i * 2 + 1) (by omega)]; exact h2

theorem dl_1 {k : Nat} {l : List SegD} {bs : List Bool} (h : bs.length < 4) (h2 : num bs = 0) : decL k l bs = (l, 0) := by rw [decL, dif_pos h, if_pos h2]
theorem dl_2 {k : Nat} {l : List SegD} {bs : List Bool} (h : bs.length < 4) (h2 : num bs ≠ 0) : decL k l bs = ([], 22) := by rw [decL, dif_pos h, if_neg h2]
theorem dl_3 {k : Nat} {l : List SegD} {bs : List Bool} (h : ¬ bs.length < 4) (h2 : num (bs.take 4) = 0) : decL k l bs = (l, 0) := by rw [decL, dif_neg h, if_pos h2]
theorem dl_4 {k : Nat} {l : List SegD} {bs : List Bool} (h : ¬ bs.length < 4) (h2 : num (bs.take 4) ≠ 0) (h3 : okMode (num (bs.take 4)) = false) : decL k l bs = ([], 22) := by rw [decL, dif_neg h, if_neg h2, if_pos h3]
theorem dl_5 {k : Nat} {l : List SegD} {bs : List Bool} (h : ¬ bs.length < 4) (h2 : num (bs.take 4) ≠ 0) (h3 : okMode (num (bs.take 4)) = true) (h4 : 4096 ≤ l.length) : decL k l bs = ([], 4) := by
  rw [decL, dif_neg h, if_neg h2, if_neg (by rw [h3]; simp), if_pos h4]
theorem dl_6 {k : Nat} {l : List SegD} {bs : List Bool} {d : List UInt8} {E : Int} {r : List Bool} (h : ¬ bs.length < 4) (h2 : num (bs.take 4) ≠ 0) (h3 : okMode (num (bs.take 4)) = true) (h4 : ¬ 4096 ≤ l.length) (h5 : readRes (num (bs.take 4)) k (bs.drop 4) = (d, E, r)) (hE : E ≠ 0) : decL k l bs = ([], E) := by
  rw [decL, dif_neg h, if_neg h2, if_neg (by rw [h3]; simp), if_neg h4, h5, if_pos hE]
theorem dl_7 {k : Nat} {l : List SegD} {bs : List Bool} {d : List UInt8} {r : List Bool} (h : ¬ bs.length < 4) (h2 : num (bs.take 4) ≠ 0) (h3 : okMode (num (bs.take 4)) = true) (h4 : ¬ 4096 ≤ l.length) (h5 : readRes (num (bs.take 4)) k (bs.drop 4) = (d, 0, r)) : decL k l bs = decL k (l ++ [(num (bs.take 4), d)]) r := by
  rw [decL, dif_neg h, if_neg h2, if_neg (by rw [h3]; simp), if_neg h4, h5, if_neg (by simp)]

set_option maxRecDepth 20000 in
set_option maxHeartbeats 3200000 in
theorem decode_any (ao : Option Addr) (len cap : Nat) (bs : List Bool) (c : Int) (w : World) (hl : bs.length = len) (hb : len ≤ 9223372036854775807) (hn0 : ao = none → cap = 0) (hr : Row w ao (bools bs)) :
    Calls Try.prog 23 #[.slice ao len cap, .int .i64 c] w (RetSegs w (decRes bs c)) := by
  have HL := Lib.hid hl
  rcases class_cases c with hcc | ⟨hcc, hcc'⟩ | hcc
  · rw [show decRes bs c = ([], 1) from by unfold decRes; rw [if_pos (Or.inl hcc)]]
    clear hl
    go_enter Try.func23, Try.ntmps23
    go_wp2_with fail
    go_ret2
    exact RetSegs.nil _ _ _ (Ext.refl _)
  · rw [show decRes bs c = ([], 1) from by unfold decRes; rw [if_pos (Or.inr hcc')]]
    clear hl
    go_enter Try.func23, Try.ntmps23
    go_wp2_with fail
    go_ret2
    exact RetSegs.nil _ _ _ (Ext.refl _)
  · obtain ⟨k, rfl, hk⟩ : ∃ k : Nat, c = k ∧ k ≤ 2 := ⟨c.toNat, by omega, by omega⟩
    clear hcc
    by_cases hbig : 1048576 < len
    · rw [show decRes bs k = ([], 4) from by unfold decRes; rw [if_neg (by omega), if_pos (by omega)]]
      clear hl
      go_enter Try.func23, Try.ntmps23
      go_wp2_with fail
      go_ret2
      exact RetSegs.nil _ _ _ (Ext.refl _)
    · rw [show decRes bs k = decL k [] bs from by unfold decRes; rw [if_neg (by omega), if_neg (by omega)]; rfl]
      have HNR := Lib.hid (newReader2_any ao len cap bs w hl (by omega) hn0 hr)
      obtain ⟨R, hR⟩ : ∃ R, R = decL k [] bs := ⟨_, rfl⟩
      rw [← hR]
      have HR := Lib.hid hR
      clear hR hl
      go_enter Try.func23, Try.ntmps23
      go_wp2_with fail
      refine HNR.out.mono ?_
      rintro e wS ⟨g, h, rfl, hrd, hwg, hh, hxS⟩
      have HXS := Lib.hid hxS
      have HRD := Lib.hid hrd
      have hgS := hrd.lt
      clear hxS hrd
      go_wp2_with fail
      go_loopg [7, 8, 9, 10, 11, 12] (len + 1) (fun q v _ _ _ _ _ wr => ∃ (l : List SegD) (cur : List Bool) (cells : List Value), cur.length < q ∧ cur.length ≤ len ∧ l.length ≤ 4096 ∧ wr.ownsRow wS.heap.size 33 2 v l.length cells ∧ Hid (SegCells w.heap.size wr g v cells l) ∧ Hid (Rd2 wr g h cur) ∧ Hid (decL k l cur = R) ∧ Hid (KeepG g wS (.slice none 0 0) wr v))
      case atStart => exact ⟨[], bs, [], by rw [HL.out]; omega, by rw [HL.out]; exact Nat.le_refl _, by simp, World.ownsRow_nil _ _ _ _, SegCells.nil _ _ _ _, HRD, HR.out.symm, KeepG.ofExt (Ext.refl _) _⟩
      case round =>
        obtain ⟨l, cur, cells, hq, hcl, hl4, hown, HSC, HRC, HDL, HKG⟩ := hrel
        have HXW : Hid (Ext w wr) := by
          have h1 := HKG.out
          refine ⟨h1.os.trans HXS.out.os, h1.tape.trans HXS.out.tape, h1.output.trans HXS.out.output, Nat.le_trans HXS.out.size h1.size, fun k' hk' => ?_⟩
          exact (h1.block k' (Nat.lt_of_lt_of_le hk' HXS.out.size) (by omega) (by simp [Value.ownBlock])).trans (HXS.out.block k' hk')
        have HLF := Lib.hid (left2_any g h cur wr HRC.out)
        by_cases h4 : cur.length < 4
        · obtain ⟨nc, hnc⟩ : ∃ nc, nc = cur.length := ⟨_, rfl⟩
          rw [← hnc] at HLF h4
          have HNC := Lib.hid hnc
          have HTK := Lib.hid (take2_any g h cur nc wr HRC.out (by omega) (by omega))
          rw [hnc, List.take_of_length_le (Nat.le_refl _), ← hnc] at HTK
          clear hnc
          go_wp2_with fail
          refine HLF.out.mono ?_
          rintro e w' ⟨rfl, rfl⟩
          go_wp2_with fail
          refine HLF.out.mono ?_
          rintro e w' ⟨rfl, rfl⟩
          go_wp2_with fail
          refine HTK.out.mono ?_
          rintro e w2 ⟨rfl, hr2, hg2⟩
          simp only [two]
          have HX2 : Hid (Ext w w2) := by
            have h1 := HXW.out
            refine ⟨hg2.os.trans h1.os, hg2.tape.trans h1.tape, hg2.output.trans h1.output, Nat.le_trans h1.size hg2.size, fun k' hk' => ?_⟩
            exact (hg2.block k' (Nat.lt_of_lt_of_le hk' h1.size) (fun e => by have := Option.some.inj e; omega)).trans (h1.block k' hk')
          have HK2 := Lib.hid (KeepG.ofGrown hg2 u7)
          have HOW2 : Hid (w2.ownsRow wS.heap.size 33 2 u7 l.length cells) := hown.kept hg2 (Or.inr (own_below hown hgS))
          by_cases hz : num cur = 0
          · have HR2 : Hid (R = (l, 0)) := by show _ = _; rw [← HDL.out]; exact dl_1 (by rw [← HNC.out]; exact h4) hz
            have hz' : (num cur != 0) = false := by simp [hz]
            clear hz hr2 hg2 hown
            go_wp2_with fail
            go_ret2
            rw [HR2.out]
            exact RetSegs.own HOW2.out HXS.out.size (HSC.out.keep HK2.out) HX2.out
          · have HR2 : Hid (R = ([], 22)) := by show _ = _; rw [← HDL.out]; exact dl_2 (by rw [← HNC.out]; exact h4) hz
            have hz' : (num cur != 0) = true := by simp [hz]
            clear hz hr2 hg2 hown
            go_wp2_with fail
            go_ret2
            rw [HR2.out]
            exact RetSegs.nil _ _ _ HX2.out
        · have H4 := Lib.hid h4
          obtain ⟨nc, hnc⟩ : ∃ nc, nc = cur.length := ⟨_, rfl⟩
          rw [← hnc] at HLF h4
          have HNC := Lib.hid hnc
          have HTK := Lib.hid (take2_any g h cur 4 wr HRC.out (by omega) (by omega))
          have hM : num (cur.take 4) = (numN (cur.take 4) : Int) := numN_num _
          obtain ⟨M, hM'⟩ : ∃ M, M = numN (cur.take 4) := ⟨_, rfl⟩
          rw [← hM'] at hM
          have HM := Lib.hid hM
          rw [hM] at HTK
          have hM16 : M < 16 := by
            have h1 := numN_lt (cur.take 4)
            rw [List.length_take, Nat.min_eq_left (by omega), ← hM'] at h1
            omega
          clear hM hM' hnc
          go_wp2_with fail
          refine HLF.out.mono ?_
          rintro e w' ⟨rfl, rfl⟩
          go_wp2_with fail
          refine HTK.out.mono ?_
          rintro e w2 ⟨rfl, hr2, hg2⟩
          simp only [two]
          have HX2 : Hid (Ext w w2) := by
            have h1 := HXW.out
            refine ⟨hg2.os.trans h1.os, hg2.tape.trans h1.tape, hg2.output.trans h1.output, Nat.le_trans h1.size hg2.size, fun k' hk' => ?_⟩
            exact (hg2.block k' (Nat.lt_of_lt_of_le hk' h1.size) (fun e => by have := Option.some.inj e; omega)).trans (h1.block k' hk')
          have HK2 := Lib.hid (KeepG.ofGrown hg2 u7)
          have HOW2 : Hid (w2.ownsRow wS.heap.size 33 2 u7 l.length cells) := hown.kept hg2 (Or.inr (own_below hown hgS))
          have HR2 := Lib.hid hr2
          clear hr2 hg2 hown
          by_cases hz : M = 0
          · have HRR : Hid (R = (l, 0)) := by show _ = _; rw [← HDL.out]; exact dl_3 H4.out (by rw [HM.out, hz]; rfl)
            subst hz
            go_wp2_with fail
            go_ret2
            rw [HRR.out]
            exact RetSegs.own HOW2.out HXS.out.size (HSC.out.keep HK2.out) HX2.out
          · have hz' : ((M : Int) == 0) = false := by simp [hz]
            have HZ : Hid (num (cur.take 4) ≠ 0) := by show _ ≠ _; rw [HM.out]; omega
            clear hz
            cases hok : okMode (M : Int)
            · have HRR : Hid (R = ([], 22)) := by show _ = _; rw [← HDL.out]; exact dl_4 H4.out HZ.out (by rw [HM.out]; exact hok)
              have HOK := Lib.hid hok
              clear hok
              go_wp2_with fail
              refine (known_any _ _).mono ?_
              rw [HOK.out]
              rintro e w' ⟨rfl, rfl⟩
              go_wp2_with fail
              go_ret2
              rw [HRR.out]
              exact RetSegs.nil _ _ _ HX2.out
            · have HOK := Lib.hid hok
              have HOKM : Hid (okMode (num (cur.take 4)) = true) := by show _ = _; rw [HM.out]; exact hok
              clear hok
              obtain ⟨vo, vc, rfl⟩ : ∃ vo vc, u7 = .slice vo l.length vc := by
                rcases HOW2.out.2 with ⟨hv, hn⟩ | ⟨g', cap', cur', hv, _⟩
                · exact ⟨none, 0, by rw [hv, hn]⟩
                · exact ⟨_, _, hv⟩
              by_cases hl5 : 4096 ≤ l.length
              · have HRR : Hid (R = ([], 4)) := by show _ = _; rw [← HDL.out]; exact dl_5 H4.out HZ.out HOKM.out hl5
                go_wp2_with fail
                refine (known_any _ _).mono ?_
                rw [HOK.out]
                rintro e w' ⟨rfl, rfl⟩
                go_wp2_with fail
                go_ret2
                rw [HRR.out]
                exact RetSegs.nil _ _ _ HX2.out
              · obtain ⟨d, E, rest, hrr⟩ : ∃ d E rest, readRes (M : Int) k (cur.drop 4) = (d, E, rest) := ⟨_, _, _, rfl⟩
                have hrl := readRes_left (M : Int) k (cur.drop 4)
                rw [hrr, List.length_drop] at hrl
                simp only at hrl
                have HRS : Hid (readRes (num (cur.take 4)) k (cur.drop 4) = (d, E, rest)) := by show _ = _; rw [HM.out]; exact hrr
                have HH2 : Hid (h < w2.heap.size) := Nat.lt_of_lt_of_le hh (Nat.le_trans HKG.out.size HK2.out.size)
                have HRE := Lib.hid (read_any g h (M : Int) k (cur.drop 4) w2 HOK.out hk HH2.out HR2.out)
                rw [hrr] at HRE
                clear hrr
                have hrest : rest.length < nc := by have := HNC.out; omega
                clear hrl
                go_wp2_with fail
                refine (known_any _ _).mono ?_
                rw [HOK.out]
                rintro e w' ⟨rfl, rfl⟩
                go_wp2_with fail
                refine HRE.out.mono ?_
                rintro e w3 ⟨s3, rfl, hown3, hrd3, hg3⟩
                simp only at hown3 hrd3 ⊢
                have HX3 : Hid (Ext w w3) := by
                  have h1 := HX2.out
                  refine ⟨hg3.os.trans h1.os, hg3.tape.trans h1.tape, hg3.output.trans h1.output, Nat.le_trans h1.size hg3.size, fun k' hk' => ?_⟩
                  exact (hg3.block k' (Nat.lt_of_lt_of_le hk' h1.size) (fun e => by have := Option.some.inj e; omega)).trans (h1.block k' hk')
                by_cases hE : E = 0
                case neg =>
                  have HRR : Hid (R = ([], E)) := by show _ = _; rw [← HDL.out]; exact dl_6 H4.out HZ.out HOKM.out hl5 HRS.out hE
                  have hE' : (E != 0) = true := by simp [hE]
                  obtain ⟨so3, sc3, rfl, _⟩ := own_row hown3
                  clear hE hown3 hrd3 hg3
                  go_wp2_with fail
                  go_ret2
                  rw [HRR.out]
                  exact RetSegs.nil _ _ _ HX3.out
                case pos =>
                  subst hE
                  have HDL2 : Hid (decL k (l ++ [((M : Int), d)]) rest = R) := by show _ = _; rw [← HDL.out, dl_7 H4.out HZ.out HOKM.out hl5 HRS.out, HM.out]
                  have HRD3 := Lib.hid (hrd3 rfl)
                  have HK3 := Lib.hid (HK2.out.trans (KeepG.ofGrown hg3 (.slice vo l.length vc)))
                  have HOW3 : Hid (w3.ownsRow wS.heap.size 33 2 (.slice vo l.length vc) l.length cells) := HOW2.out.kept hg3 (Or.inr (own_below HOW2.out hgS))
                  obtain ⟨so3, sc3, rfl, hso3, hsm3, _, hsr3⟩ := own_row hown3
                  have HDA : Hid (DatA w.heap.size w3 g (.slice vo l.length vc) (.slice so3 d.length sc3) d) := by
                    refine ⟨so3, sc3, rfl, hsr3, hso3, by unfold maxLen at hsm3; omega, own_nil' hown3, ?_⟩
                    intro a ha
                    subst ha
                    have h1 := hown3.lt a.block rfl
                    have h2 := HR2.out.lt
                    refine ⟨by omega, ?_, h1.2, Nat.le_trans HX2.out.size h1.1⟩
                    intro e
                    have := (HOW2.out.lt a.block e).2
                    omega
                  have HSZ : Hid (wS.heap.size ≤ w3.heap.size) := Nat.le_trans HKG.out.size HK3.out.size
                  have hown3' := HOW3.out
                  have hll : l.length ≤ 4096 := hl4
                  clear hown3 hrd3 hg3 hsr3
                  go_wp2_with (at_builtin; refine wpList_pushK rfl _ _ 25 rfl wS.heap.size 33 (.agg #[.int .i64 0, .slice none 0 0]) 2 32 Try.infoSeg rfl (by decide) Try.underlying25 _ rfl _ _ hown3' [.int .i64 (M : Int), .slice so3 d.length sc3] rfl rfl (by simp [Value.oneCell']) (by omega) (by omega) HSZ.out ?_; intro s4 w4 hown4 hk4)
                  have HC2 : Hid (cells.length = l.length * 2) := hown3'.1
                  have HSC4 := Lib.hid (((HSC.out.keep HK3.out).snoc (m := (M : Int)) HC2.out HDA.out).keep (KeepG.ofKeep hk4))
                  have HRD4 := Lib.hid (HRD3.out.keep hk4 (own_below hown3' hgS) (own_below hown3' hh))
                  have HKG4 := Lib.hid (HKG.out.trans (HK3.out.trans (KeepG.ofKeep hk4)))
                  have hown4' : w4.ownsRow wS.heap.size 33 2 s4 (l ++ [((M : Int), d)]).length (cells ++ [.int .i64 (M : Int), .slice so3 d.length sc3]) := by
                    rw [List.length_append]; exact hown4
                  clear hown4 hk4 hown3' HK3 HOW3 HDA HRD3
                  go_roundg (gk - 1)
                  case rel => exact ⟨l ++ [((M : Int), d)], rest, _, by have := HNC.out; omega, by have := HNC.out; omega, by rw [List.length_append]; simp; omega, hown4', HSC4, HRD4, HDL2, HKG4⟩
                  case measure => omega

end Go.Proofs.Ythebfpolijajgaa
