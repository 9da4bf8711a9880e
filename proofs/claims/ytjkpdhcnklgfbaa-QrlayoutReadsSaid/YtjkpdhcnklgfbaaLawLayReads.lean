/-
  For every input QrlayoutReads returns true, and each argument reads afterwards as it read before (Rows.QrlayoutReadsSaid).
  No condition.
-/
import Derived.Test.YtjkpdhcnklgfbaaLive
import Derived.Test.YtjkpdhcnklgfbaaBack
import Derived.Lib.BufferMore
import Derived.Laws.IdiomArrays
namespace Go.Back
open Go.Qrv Go.Lay Go.Bs Go.Bch Go.Proofs.Ytjkpdhcnklgfbaa

/-! ### modules that are inverted -/

theorem df_set (k : Nat) (ps : List (Nat × Nat)) (xs sg : List Bool) (z : Nat) (b : Bool) (hn : (ps.map (posOf k)).Nodup) :
    ∀ j, dfN k ps (xs.set z b) sg j ≤ dfN k ps xs sg j + 1 ∧ ((∀ i p, i < j → ps[i]? = some p → posOf k p ≠ z) → dfN k ps (xs.set z b) sg j = dfN k ps xs sg j)
  | 0 => ⟨Nat.le_succ _, fun _ => rfl⟩
  | j + 1 => by
    obtain ⟨h1, h2⟩ := df_set k ps xs sg z b hn j
    unfold dfN
    cases hp : ps[j]? with
    | none => exact ⟨by simpa using h1, fun h => by simpa using h2 (fun i p hi => h i p (by omega))⟩
    | some p =>
      simp only []
      by_cases e : posOf k p = z
      · have heq := h2 (fun i q hi hq e' => by
          have hi' : i < ps.length := (List.getElem?_eq_some_iff.1 hq).1
          have hj' : j < ps.length := (List.getElem?_eq_some_iff.1 hp).1
          have h0 := (List.pairwise_iff_getElem.1 hn) i j (by simpa using hi') (by simpa using hj') hi
          rw [List.getElem_map, List.getElem_map, (List.getElem?_eq_some_iff.1 hp).2, (List.getElem?_eq_some_iff.1 hq).2] at h0
          exact h0 (e'.trans e.symm))
        refine ⟨?_, fun h => absurd e (h j p (by omega) hp)⟩
        rw [heq]
        split <;> split <;> omega
      · rw [getD_set_ne b (fun h => e h.symm)]
        refine ⟨by omega, fun h => ?_⟩
        rw [h2 (fun i q hi => h i q (by omega))]
theorem df_off (k : Nat) (ps : List (Nat × Nat)) (xs sg : List Bool) (z : Nat) (b : Bool) (hn : (ps.map (posOf k)).Nodup) (h : ∀ p ∈ ps, posOf k p ≠ z) (j : Nat) : dfN k ps (xs.set z b) sg j = dfN k ps xs sg j :=
  (df_set k ps xs sg z b hn j).2 fun _ p _ hp => h p (List.mem_of_getElem? hp)

/-- At most three modules of a copy differ: counted. -/
structure Inv (n : Nat) (sg xs : List Bool) (cs : List Nat) : Prop where
  len : cs.length = 4
  le : ∀ g, g < 4 → cs.getD g 0 ≤ 3
  fm : ∀ c, c ≤ 1 → dfN (sd n) (fmL (sd n) c 15) xs sg 15 ≤ cs.getD c 0
  vr : 7 ≤ n → ∀ c, c ≤ 1 → dfN (sd n) (vrL (sd n) c 18) xs sg 18 ≤ cs.getD (c + 2) 0
theorem inv_start (n : Nat) (sg : List Bool) : Inv n sg sg [0, 0, 0, 0] :=
  ⟨rfl, fun g hg => by rcases (show g = 0 ∨ g = 1 ∨ g = 2 ∨ g = 3 by omega) with rfl | rfl | rfl | rfl <;> decide, fun c _ => by rw [df_self]; exact Nat.zero_le _, fun _ c _ => by rw [df_self]; exact Nat.zero_le _⟩
theorem getD_set (cs : List Nat) (g h v : Nat) (hg : g < cs.length) : (cs.set g v).getD h 0 = if g = h then v else cs.getD h 0 := by
  rw [List.getD_eq_getElem?_getD, List.getD_eq_getElem?_getD, List.getElem?_set]
  split
  · first | rfl | (rw [if_pos hg]; rfl)
  · rfl
theorem inv_fm {n : Nat} {sg xs : List Bool} {cs : List Nat} (hn : 1 ≤ n) (h : Inv n sg xs cs) {c i : Nat} (hc : c ≤ 1) (hi : i < 15) (hlt : cs.getD c 0 < 3) (b : Bool) :
    Inv n sg (xs.set (posOf (sd n) (fmAt (sd n) c i)) b) (cs.set c (cs.getD c 0 + 1)) := by
  have hs : 21 ≤ sd n := by unfold sd; omega
  have hl := h.len
  refine ⟨by rw [List.length_set]; exact hl, fun g hg => ?_, fun d hd => ?_, fun h7 d hd => ?_⟩
  · have := h.le g hg
    rw [getD_set _ _ _ _ (by omega)]
    split <;> omega
  · rw [getD_set _ _ _ _ (by omega)]
    by_cases e : c = d
    · subst e
      rw [if_pos rfl]
      have h1 := (df_set (sd n) (fmL (sd n) c 15) xs sg (posOf (sd n) (fmAt (sd n) c i)) b (fm_nodup _ _ hs) 15).1
      have h2 := h.fm c hc
      omega
    · rw [if_neg e, df_off _ _ _ _ _ _ (fm_nodup _ _ hs)]
      · exact h.fm d hd
      · intro p hp e'
        rcases (show (c = 0 ∧ d = 1) ∨ (c = 1 ∧ d = 0) by omega) with ⟨rfl, rfl⟩ | ⟨rfl, rfl⟩
        · exact away_ff (sd n) hs _ (fm_mem hi) p hp e'.symm
        · exact away_ff (sd n) hs p hp _ (fm_mem hi) e'
  · rw [getD_set _ _ _ _ (by omega), if_neg (by omega), df_off _ _ _ _ _ _ (vr_nodup _ _ (by unfold sd; omega))]
    · exact h.vr h7 d hd
    · exact fun p hp => away_fv (sd n) d c (by unfold sd; omega) p hp _ (fm_mem hi)
theorem inv_vr {n : Nat} {sg xs : List Bool} {cs : List Nat} (h7 : 7 ≤ n) (h : Inv n sg xs cs) {c i : Nat} (hc : c ≤ 1) (hi : i < 18) (hlt : cs.getD (c + 2) 0 < 3) (b : Bool) :
    Inv n sg (xs.set (posOf (sd n) (vrAt (sd n) c i)) b) (cs.set (c + 2) (cs.getD (c + 2) 0 + 1)) := by
  have hs : 45 ≤ sd n := by unfold sd; omega
  have hl := h.len
  refine ⟨by rw [List.length_set]; exact hl, fun g hg => ?_, fun d hd => ?_, fun _ d hd => ?_⟩
  · have := h.le g hg
    rw [getD_set _ _ _ _ (by omega)]
    split <;> omega
  · rw [getD_set _ _ _ _ (by omega), if_neg (by omega), df_off _ _ _ _ _ _ (fm_nodup _ _ (by omega))]
    · exact h.fm d hd
    · exact fun p hp e => away_fv (sd n) c d hs _ (vr_mem hi) p hp e.symm
  · rw [getD_set _ _ _ _ (by omega)]
    by_cases e : c = d
    · subst e
      rw [if_pos rfl]
      have h1 := (df_set (sd n) (vrL (sd n) c 18) xs sg (posOf (sd n) (vrAt (sd n) c i)) b (vr_nodup _ _ hs) 18).1
      have h2 := h.vr h7 c hc
      omega
    · rw [if_neg (by omega), df_off _ _ _ _ _ _ (vr_nodup _ _ hs)]
      · exact h.vr h7 d hd
      · intro p hp e'
        rcases (show (c = 0 ∧ d = 1) ∨ (c = 1 ∧ d = 0) by omega) with ⟨rfl, rfl⟩ | ⟨rfl, rfl⟩
        · exact away_vv (sd n) hs _ (vr_mem hi) p hp e'.symm
        · exact away_vv (sd n) hs p hp _ (vr_mem hi) e'
theorem inv_read {n l m : Nat} (hn : 1 ≤ n) (h40 : n ≤ 40) (h1 : 1 ≤ l) (h2 : l ≤ 4) (hm : m ≤ 7) {bs xs : List Bool} (hl : bs.length = sd n * sd n) {cs : List Nat} (h : Inv n (signN n (fw l m : Nat) bs) xs cs) : rdRes n xs = ((n : Int), (l : Int), (m : Int), 0) :=
  rd_near hn h40 h1 h2 hm bs xs hl (fun c hc => Nat.le_trans (h.fm c hc) (h.le c (by omega))) (fun h7 c hc => Nat.le_trans (h.vr h7 c hc) (h.le _ (by omega)))
end Go.Back

namespace Go.Bs
open Go Go.RowKit Go.ChangeShapes Go.WideShapes Go.ChangeAt Go.Joins

/-! ### arguments -/

/-- A copy, a bit, and whether it is of the version information. -/
abbrev SpotD := Int × Int × Bool
/-- The cells of a slice of such. -/
def Spots (w : World) (ao : Option Addr) (l : List SpotD) : Prop :=
  ∀ (i : Nat) (p : SpotD), l[i]? = some p → ∃ b off, ao = some ⟨b, off, none⟩ ∧ w.cell? ⟨b, off + i * 3, none⟩ = some (.int .i64 p.1) ∧ w.cell? ⟨b, off + i * 3 + 1, none⟩ = some (.int .i64 p.2.1) ∧ w.cell? ⟨b, off + i * 3 + 2, none⟩ = some (.bool p.2.2)
theorem Spots.ext {w w' : World} {ao : Option Addr} {l : List SpotD} (h : Spots w ao l) (hx : Ext w w') : Spots w' ao l := by
  intro i p hi
  obtain ⟨b, off, ha, h1, h2, h3⟩ := h i p hi
  exact ⟨b, off, ha, hx.cell h1, hx.cell h2, hx.cell h3⟩
theorem Spots.nil (w : World) (ao : Option Addr) : Spots w ao [] := by intro i p h; simp at h
theorem view_spots {H : Type} {enc : TypeId × Value → H} {P : Program} {w : World} {base : Nat} {held : Bool} {t e ti tb : TypeId} {f0 f1 f2 : Field} {fuel : Nat} {v : Value} {x : DataW H × List MemPlace}
    (ht : P.underlying t = some (.slice e)) (he : P.underlying e = some (.struct #[f0, f1, f2])) (hi : P.underlying ti = some (.int .i64)) (hc : P.cellsOf e = 3) (hci : P.cellsOf ti = 1)
    (hb : P.underlying tb = some .bool) (hcb : P.cellsOf tb = 1) (h0 : f0.type = ti) (h1 : f1.type = ti) (h2 : f2.type = tb) (o0 : f0.offset = 0) (o1 : f1.offset = 1) (o2 : f2.offset = 2)
    (h : DataW.trod enc P w base (fun _ => true) held fuel t [v] = some x) :
    ∃ l : List SpotD, ∃ ao len cap, v = .slice ao len cap ∧ l.length = len ∧ len ≤ cap ∧ cap ≤ 9223372036854775807 ∧ Spots w ao l ∧ ∀ p ∈ l, (Lit.int .i64 p.1).wf = true ∧ (Lit.int .i64 p.2.1).wf = true := by
  rcases Deep.open_slice ht h with ⟨hcs, _⟩ | ⟨a, len, cap, m, n, D, Pl, hcs, _, hl, hm, hmm, _, hx⟩
  · simp at hcs
    exact ⟨[], none, 0, 0, hcs, rfl, Nat.le_refl _, by decide, Spots.nil _ _, fun p hp => by cases hp⟩
  · simp at hcs
    simp only [if_true] at hmm
    subst hmm
    have each : ∀ i, i < m → ∃ p : SpotD, w.cell? (a.add (i * 3)) = some (.int .i64 p.1) ∧ w.cell? ((a.add (i * 3)).add 1) = some (.int .i64 p.2.1) ∧ w.cell? ((a.add (i * 3)).add 2) = some (.bool p.2.2) ∧ (Lit.int .i64 p.1).wf = true ∧ (Lit.int .i64 p.2.1).wf = true := by
      intro i hi'
      obtain ⟨cs', k2, k3⟩ := hx i hi'
      rw [hc] at k2
      obtain ⟨y0, y1, y2, n', _, hlen, k4, k5, k6⟩ := Deep.trod_struct3 he k3
      rw [hc] at hlen
      obtain ⟨_, _, hcell⟩ := World.cells?_some k2
      match cs', hlen with
      | [c0, c1, c2], _ =>
        rw [h0, o0, hci] at k4
        rw [h1, o1, hci] at k5
        rw [h2, o2, hcb] at k6
        obtain ⟨x0, e0, _, w0⟩ := DataW.trod_int hi k4
        simp at e0
        subst e0
        obtain ⟨x1, e1, _, w1⟩ := DataW.trod_int hi k5
        simp at e1
        subst e1
        obtain ⟨x2, e2, _⟩ := DataW.trod_bool hb k6
        simp at e2
        subst e2
        exact ⟨(x0, x1, x2), by have := hcell 0 (by decide); simpa [Addr.add] using this, by have := hcell 1 (by decide); simpa using this, by have := hcell 2 (by decide); simpa using this, w0, w1⟩
    obtain ⟨f, hf⟩ := Deep.choose_lt each
    refine ⟨(List.range len).map f, some a, len, m, hcs, by simp, hl, by unfold maxLen at hm; omega, ?_, ?_⟩
    · intro i p hp
      have hi' : i < len := by have := (List.getElem?_eq_some_iff.1 hp).1; simpa using this
      simp [hi'] at hp
      subst hp
      obtain ⟨b, off, spot⟩ := a
      obtain ⟨g1, g2, g3, _⟩ := hf i (by omega)
      have hspot : spot = none := by
        obtain ⟨k1, _⟩ := hf 0 (by omega)
        have := World.cell?_spot k1
        simpa [Addr.add] using this
      subst hspot
      rw [add_add] at g2 g3
      rw [Addr.add_lit] at g1 g2 g3
      exact ⟨b, off, rfl, g1, by rw [← Nat.add_assoc] at g2; exact g2, by rw [← Nat.add_assoc] at g3; exact g3⟩
    · intro p hp
      obtain ⟨i, hi', rfl⟩ := List.mem_map.1 hp
      obtain ⟨_, _, _, k, k'⟩ := hf i (by have := List.mem_range.1 hi'; omega)
      exact ⟨k, k'⟩
theorem okWide_array {P : Program} {w : World} {r : Reach} {base : Nat} {t e : TypeId} {v : Value} {n : Nat} (ht : P.underlying t = some (.array n e)) (h : Value.okWide P w r base t v) : ∃ cs, v = .agg cs ∧ cs.size = P.cellsOf t := by
  simp only [Value.okWide, ht] at h
  obtain ⟨cs, h1, h2, _⟩ := h
  exact ⟨cs, h1, h2⟩
theorem open_arr3 {H : Type} {enc : TypeId × Value → H} {P : Program} {w : World} {base : Nat} {spare : Nat → Bool} {held : Bool} {r : Reach} {b0 : Nat} {t e : TypeId} {v : Value} {d : DataW H} {p : List MemPlace} (hs : P.underlying t = some (.array 3 e)) (hce : P.cellsOf e = 1) (hC : P.cellsOf t = 3)
    (hv : Value.okWide P w r b0 t v) (h : DataW.Trod enc P w base spare held t v d p) :
    ∃ (v0 v1 v2 : Value) (y0 y1 y2 : DataW H × List MemPlace) (n : Nat), v = .agg #[v0, v1, v2] ∧ d = .agg [y0.1, y1.1, y2.1] ∧ p = y0.2 ++ (y1.2 ++ y2.2) ∧
      DataW.trod enc P w base spare held n e [v0] = some y0 ∧ DataW.trod enc P w base spare held n e [v1] = some y1 ∧ DataW.trod enc P w base spare held n e [v2] = some y2 := by
  obtain ⟨cs, rfl, hsz⟩ := okWide_array hs hv
  obtain ⟨c0, c1, c2, rfl⟩ := array3 (hsz.trans hC)
  obtain ⟨fuel, hf⟩ := h
  obtain ⟨y0, y1, y2, n, hx, h0, h1, h2⟩ := trod_array3 hs hce hf
  simp only [Prod.mk.injEq] at hx
  exact ⟨c0, c1, c2, y0, y1, y2, n, rfl, hx.1, hx.2, h0, h1, h2⟩
end Go.Bs

namespace Go.Proofs.Ytjkpdhcnklgfbaa
open Go.RowKit Go.Bs Go.ChangeShapes Go.WideShapes Go.ChangeAt Go.Joins Go.Qrv Go.Lay Go.Bch

/-- The counters of the copies. -/
def nA (cs : List Nat) : Array Value := (cs.map fun c : Nat => Value.int .i64 (c : Int)).toArray
theorem nA_at (cs : List Nat) (g : Nat) (h : g < cs.length) : (nA cs)[g]? = some (.int .i64 ((cs.getD g 0 : Nat) : Int)) := by
  unfold nA
  rw [List.getElem?_toArray, List.getElem?_map, List.getD_eq_getElem?_getD, List.getElem?_eq_getElem h]
  rfl
theorem nA_set (cs : List Nat) (g v : Nat) : (nA cs).setIfInBounds g (.int .i64 ((v : Int) + 1)) = nA (cs.set g (v + 1)) := by
  unfold nA
  rw [List.setIfInBounds_toArray, List.map_set]
  rfl
theorem frozen_row {w : World} {g : Nat} {cs : Array Value} {t : TypeId} (h : w.heap[g]? = some (.cells cs t (0, 0))) (k : Nat) : w.frozen? ⟨g, k, none⟩ = false := by simp [World.frozen?, h]
theorem own_row0 {w : World} {B : Nat} {e : TypeId} {v : Value} {n : Nat} {xs : List Value} (h : w.ownsRow B e 1 v n xs) (hn : 0 < n) :
    ∃ g cap, v = .slice (some ⟨g, 0, none⟩) n cap ∧ n ≤ cap ∧ B ≤ g ∧ g < w.heap.size ∧ Row w (some ⟨g, 0, none⟩) xs := by
  rcases h.2 with ⟨rfl, rfl⟩ | ⟨g, cap, cur, rfl, hb, hg, hnc, hcm, hcs, htake⟩
  · omega
  · exact ⟨g, cap, rfl, hnc, hb, (Array.getElem?_eq_some_iff.1 hg).1, fun i u hi => ⟨_, rfl, h.cells (g := g) rfl i u hi⟩⟩
theorem and_one (c : Int) : ∃ k : Nat, k ≤ 1 ∧ bits .and .i64 c 1 = (k : Int) := ⟨(c % 2).toNat, by omega, by rw [i64_and_one]; omega⟩





theorem ext_none {W V : World} (h : W.grownBy V none) : Ext W V := ⟨h.os, h.tape, h.output, h.size, fun k hk => h.block k hk (fun e => by cases e)⟩



set_option maxRecDepth 20000 in
set_option maxHeartbeats 4000000 in
theorem qrlayoutReads_walk (v l m : Int) (lo : Option Addr) (ll lc : Nat) (ls : List SpotD) (w : World) (_ : -9223372036854775808 ≤ v ∧ v ≤ 9223372036854775807) (_ : -9223372036854775808 ≤ l ∧ l ≤ 9223372036854775807) (_ : -9223372036854775808 ≤ m ∧ m ≤ 9223372036854775807)
    (hll : ls.length = ll) (_ : ll ≤ lc) (_ : lc ≤ 9223372036854775807) (hsp : Spots w lo ls) (hsw : ∀ p ∈ ls, (-9223372036854775808 ≤ p.1 ∧ p.1 ≤ 9223372036854775807) ∧ (-9223372036854775808 ≤ p.2.1 ∧ p.2.1 ≤ 9223372036854775807)) :
    Calls Try.prog 5 #[.agg #[.int .i64 v, .int .i64 l, .int .i64 m], .slice lo ll lc] w fun e w' => e = .returned (.bool true) ∧ Ext w w' := by
  obtain ⟨W1, hW1⟩ : ∃ W1, W1 = w.alloc (.cells #[.int .i64 v, .int .i64 l, .int .i64 m] 39) := ⟨_, rfl⟩
  have HX1 : Hid (Ext w W1) := by rw [hW1]; exact Ext.alloc _ _
  have z : W1.cell? ⟨w.heap.size, 0, none⟩ = some (.int .i64 v) ∧ W1.cell? ⟨w.heap.size, 1, none⟩ = some (.int .i64 l) ∧ W1.cell? ⟨w.heap.size, 2, none⟩ = some (.int .i64 m) := box3 (by rw [hW1]; exact Ext.refl _)
  obtain ⟨z0, z1, z2⟩ := z
  have HSP := Lib.hid hsp
  have HSW := Lib.hid hsw
  have HW1 := Lib.hid hW1
  clear hW1 hsp hsw
  have HBL := fun (V : World) => Lib.hid (rblank_res v V)
  unfold RetMat at HBL
  by_cases hv : inV v
  · obtain ⟨n, rfl, h1, h2⟩ := inV_nat hv
    have hsb : 21 ≤ sd n ∧ sd n ≤ 177 := by unfold sd; omega
    have hQb : 441 ≤ sd n * sd n ∧ sd n * sd n ≤ 31329 := ⟨Nat.mul_le_mul hsb.1 hsb.1, Nat.mul_le_mul hsb.2 hsb.2⟩
    have hbl : (blankN n).length = sd n * sd n := blankN_len n
    simp only [blankRes_1 hv, hbl] at HBL
    by_cases hl50 : (ll : Int) ≤ 50
    · by_cases hok : 1 ≤ l ∧ l ≤ 4 ∧ 0 ≤ m ∧ m ≤ 7
      · obtain ⟨hl1, hl4, hm0, hm7⟩ := hok
        obtain ⟨ln, rfl⟩ := Int.eq_ofNat_of_zero_le (show 0 ≤ l by omega)
        obtain ⟨mk, rfl⟩ := Int.eq_ofNat_of_zero_le hm0
        have hfm : fmtRes (ln : Int) (mk : Int) = (((Go.Back.fw ln mk : Nat) : Int), (0 : Int)) := Go.Back.fmt_nat (by omega) (by omega) (by omega)
        have hsg : sgRes n (blankN n) (ln : Int) (mk : Int) = (((sd n : Int), (sd n : Int), signN n (Go.Back.fw ln mk : Nat) (blankN n)), (0 : Int)) := by rw [sgRes_1 (by rw [hfm]), hfm]
        have hsl : (signN n (Go.Back.fw ln mk : Nat) (blankN n)).length = sd n * sd n := by rw [signN_len, hbl]
        have HSG := fun (V : World) (a : Option Addr) (c : Nat) (hn0 : a = none → c = 0) (h : Row V a (bools (blankN n))) => Lib.hid (sign_ok n h1 h2 _ a c (ln : Int) (mk : Int) V hbl hn0 h)
        simp only [hsg] at HSG
        unfold RetMat matV at HSG
        simp only [hsl] at HSG
        have HRD := fun (xs : List Bool) (cs : List Nat) (hi : Go.Back.Inv n (signN n (Go.Back.fw ln mk : Nat) (blankN n)) xs cs) (hxl : xs.length = sd n * sd n) (V : World) (a : Option Addr) (c : Nat) (h : Row V a (bools xs)) => Lib.hid (show Calls Try.prog 19 #[.agg (matV (sd n) (sd n) a (sd n * sd n) c)] V fun e w' => e = .returned (four ((n : Int), (ln : Int), (mk : Int), 0)) ∧ Ext V w' from by
          have := read_ok n h1 h2 xs a c V hxl h
          rw [Go.Back.inv_read h1 h2 (by omega) (by omega) (by omega) hbl hi] at this
          exact this)
        unfold matV four at HRD
        have HIF : Hid (∀ c i, c ≤ 1 → i < 15 → (fmAt (sd n) c i).1 < sd n ∧ (fmAt (sd n) c i).2 < sd n ∧ ∀ xs cs, Go.Back.Inv n (signN n (Go.Back.fw ln mk : Nat) (blankN n)) xs cs → cs.getD c 0 < 3 → ∀ b, Go.Back.Inv n (signN n (Go.Back.fw ln mk : Nat) (blankN n)) (xs.set (posOf (sd n) (fmAt (sd n) c i)) b) (cs.set c (cs.getD c 0 + 1))) :=
          fun c i hc hi => ⟨(fmL_in (sd n) c hsb.1 _ (Go.Back.fm_mem hi)).1, (fmL_in (sd n) c hsb.1 _ (Go.Back.fm_mem hi)).2, fun xs cs h hlt b => Go.Back.inv_fm h1 h hc hi hlt b⟩
        have HIV : Hid (7 ≤ n → ∀ c i, c ≤ 1 → i < 18 → (vrAt (sd n) c i).1 < sd n ∧ (vrAt (sd n) c i).2 < sd n ∧ ∀ xs cs, Go.Back.Inv n (signN n (Go.Back.fw ln mk : Nat) (blankN n)) xs cs → cs.getD (c + 2) 0 < 3 → ∀ b, Go.Back.Inv n (signN n (Go.Back.fw ln mk : Nat) (blankN n)) (xs.set (posOf (sd n) (vrAt (sd n) c i)) b) (cs.set (c + 2) (cs.getD (c + 2) 0 + 1))) :=
          fun h7 c i hc hi => ⟨(vrL_in (sd n) c (by unfold sd; omega) _ (Go.Back.vr_mem hi)).1, (vrL_in (sd n) c (by unfold sd; omega) _ (Go.Back.vr_mem hi)).2, fun xs cs h hlt b => Go.Back.inv_vr h7 h hc hi hlt b⟩
        have HFA := fun (c i : Nat) (V : World) (hc : c ≤ 1) (hi : i < 15) => Lib.hid (formatAt_any (sd n) c i V ⟨hsb.1, by omega⟩ hc hi)
        have HVA := fun (h7 : 7 ≤ n) (c i : Nat) (V : World) (hc : c ≤ 1) (hi : i < 18) => Lib.hid (versionAt_any (sd n) c i V ⟨by unfold sd; omega, by omega⟩ hc hi)
        unfold RetPt at HFA HVA
        have HI0 := Lib.hid (Go.Back.inv_start n (signN n (Go.Back.fw ln mk : Nat) (blankN n)))
        generalize signN n (Go.Back.fw ln mk : Nat) (blankN n) = sg at *
        generalize blankN n = xa at *
        obtain ⟨Q, hQ⟩ : ∃ Q, Q = sd n * sd n := ⟨_, rfl⟩
        have HQ := Lib.hid hQ
        rw [← hQ] at HBL HSG HRD hQb hsl
        generalize sd n = k at *
        clear hv hbl hsg hfm hQ
        go_enter Try.func5, Try.ntmps5
        go_wp2_with fail
        rw [← HW1.out]
        go_quiet (fail)
        go_wp2_with fail
        refine (HBL _).out.mono ?_
        rintro e w2 ⟨s2, rfl, ho2, hx2⟩
        obtain ⟨g2, c2, rfl, l2, b2, t2, r2⟩ := own_row0 ho2 (by omega)
        have HX2 := Lib.hid (((Ext.refl W1).drewN _).trans hx2)
        have HR2 := Lib.hid r2
        clear ho2 hx2 r2 z0 z1 z2 b2 t2
        obtain ⟨WB, hWB⟩ : ∃ WB, WB = w2.alloc (.cells #[.int .i64 ((k : Nat) : Int), .int .i64 ((k : Nat) : Int), .slice (some ⟨g2, 0, none⟩) Q c2] 24) := ⟨_, rfl⟩
        have HXB : Hid (Ext w2 WB) := by rw [hWB]; exact Ext.alloc _ _
        have HMB : Hid (∀ V, Ext WB V → V.cell? ⟨w2.heap.size, 0, none⟩ = some (.int .i64 ((k : Nat) : Int)) ∧ V.cell? ⟨w2.heap.size, 1, none⟩ = some (.int .i64 ((k : Nat) : Int)) ∧ V.cell? ⟨w2.heap.size, 2, none⟩ = some (.slice (some ⟨g2, 0, none⟩) Q c2) ∧ w2.heap.size < V.heap.size) := by
          intro V hV
          rw [hWB] at hV
          obtain ⟨a, b, c⟩ := box3 hV
          exact ⟨a, b, c, World.block_lt_of_cell? V ⟨w2.heap.size, 0, none⟩ a⟩
        have HWB := Lib.hid hWB
        clear hWB
        go_wp2_with fail
        rw [← HWB.out]
        refine (HSG _ _ c2 (fun e => by cases e) (HR2.out.ext HXB.out)).out.mono ?_
        rintro e w3 ⟨s3, rfl, ho3, hx3⟩
        obtain ⟨g3, c3, rfl, l3, b3, t3, r3⟩ := own_row0 ho3 (by omega)
        have HX3 := Lib.hid hx3
        have HO3 := Lib.hid ho3
        obtain ⟨y0, y1, y2, y3⟩ := HMB.out w3 hx3
        clear ho3 hx3 r3
        go_wp2_with (at_make; refine wpList_make (ws := WB) rfl _ _ 22 rfl WB.heap.size 4 (.bool false) 1 Try.infoBool' rfl Try.underlying22 _ _ _ _ rfl rfl Q Q rfl rfl (Nat.le_refl _) (by omega) (by omega) (HX3.out.trans ((Ext.alloc _ _).trans (Ext.alloc _ _))) (HX3.out.trans ((Ext.alloc _ _).trans (Ext.alloc _ _))).size ?_; intro w5 hown5 hbel5 hg5)
        obtain ⟨W4, hW4⟩ : ∃ W4, W4 = (w3.alloc (.cells #[.int .i64 ((k : Nat) : Int), .int .i64 ((k : Nat) : Int), .slice (some ⟨g3, 0, none⟩) Q c3] 24)).alloc (.cells #[.int .i64 0, .int .i64 0, .int .i64 0, .int .i64 0] 41) := ⟨_, rfl⟩
        rw [← hW4] at hown5 hg5
        have hs4 : W4.heap.size = w3.heap.size + 1 + 1 := by rw [hW4, World.size_alloc, World.size_alloc]
        have hX45 : Ext W4 w5 := ext_none hg5
        have hX34 : Ext w3 W4 := by rw [hW4]; exact (Ext.alloc _ _).trans (Ext.alloc _ _)
        have hb4 : W4.heap[w3.heap.size]? = some (.cells #[.int .i64 ((k : Nat) : Int), .int .i64 ((k : Nat) : Int), .slice (some ⟨g3, 0, none⟩) Q c3] 24 (0, 0)) := by rw [hW4]; exact (Ext.alloc _ _).new
        have hn4 : W4.heap[w3.heap.size + 1]? = some (.cells (nA [0, 0, 0, 0]) 41 (0, 0)) := by
          rw [hW4]
          have := heap_alloc_new (w3.alloc (.cells #[.int .i64 ((k : Nat) : Int), .int .i64 ((k : Nat) : Int), .slice (some ⟨g3, 0, none⟩) Q c3] 24)) (.cells #[.int .i64 0, .int .i64 0, .int .i64 0, .int .i64 0] 41)
          rwa [World.size_alloc] at this
        rw [hs4] at hown5
        obtain ⟨gs, hgs⟩ : ∃ g, g = w3.heap.size := ⟨_, rfl⟩
        obtain ⟨gn, hgn⟩ : ∃ g, g = w3.heap.size + 1 := ⟨_, rfl⟩
        obtain ⟨gq, hgq⟩ : ∃ g, g = w3.heap.size + 1 + 1 := ⟨_, rfl⟩
        rw [← hgn] at hn4
        rw [← hgs] at hb4
        rw [← hgq] at hown5
        rw [← hgq, ← hgn, ← hgs]
        have HX5 := Lib.hid (HX3.out.trans (hX34.trans hX45))
        have HB5 := Lib.hid (hX45.old hb4)
        have HN5 := Lib.hid (hX45.old hn4)
        have HD5 := Lib.hid (own_extN HO3.out (hX34.trans hX45))
        have HS5 : Hid (w5.ownsRow WB.heap.size 4 1 (.slice (some ⟨gq, 0, none⟩) Q Q) Q (bools (List.replicate Q false))) := by
          show World.ownsRow _ _ _ _ _ _ _
          unfold bools
          rw [List.map_replicate]
          exact hown5
        have HGE : Hid (WB.heap.size ≤ g3 ∧ g3 < gs ∧ gs < gn ∧ gn < gq ∧ WB.heap.size ≤ gs) := by
          have := HX3.out.size
          exact ⟨b3, by omega, by omega, by omega, by omega⟩
        have HG5 : Hid (gq < w5.heap.size) := by
          obtain ⟨g, c, e, _, hlt, _⟩ := own_ptr HS5.out (by omega)
          cases e
          exact hlt
        clear hW4 hs4 hX45 hX34 hb4 hn4 hown5 hbel5 hg5 hgs hgn hgq b3 t3 y0 y1 y2 y3 HX3 HO3
        go_loopw [14, 15, 16, 17, 81] (fun _ _ _ _ ii wr => ∃ i : Nat, i ≤ ll ∧ ii = .int .i64 i ∧ ∃ (xs sn : List Bool) (cs : List Nat), Hid (Go.Back.Inv n sg xs cs) ∧ Hid (xs.length = Q ∧ sn.length = Q) ∧ Hid (wr.ownsRow WB.heap.size 4 1 (.slice (some ⟨g3, 0, none⟩) Q c3) Q (bools xs)) ∧ Hid (wr.ownsRow WB.heap.size 4 1 (.slice (some ⟨gq, 0, none⟩) Q Q) Q (bools sn)) ∧ Hid (wr.heap[gs]? = some (.cells #[.int .i64 ((k : Nat) : Int), .int .i64 ((k : Nat) : Int), .slice (some ⟨g3, 0, none⟩) Q c3] 24 (0, 0))) ∧ Hid (wr.heap[gn]? = some (.cells (nA cs) 41 (0, 0))) ∧ Hid (Ext WB wr) ∧ Hid (gq < wr.heap.size)) (fun _ _ _ _ ii _ => ll - (intOf ii).toNat)
        case atStart => exact ⟨0, Nat.zero_le _, rfl, sg, List.replicate Q false, [0, 0, 0, 0], HI0, ⟨hsl, by simp⟩, HD5, HS5, HB5, HN5, HX5, HG5⟩
        case round =>
          clear HD5 HS5 HB5 HN5 HX5 HG5 HI0
          obtain ⟨i, hi, rfl, xs, sn, cs, HIN, HLN, HD, HS, HB, HN, HX, HG⟩ := hrel
          by_cases hlt : i < ll
          · obtain ⟨⟨cp, bt, vs⟩, hp⟩ : ∃ p, ls[i]? = some p := ⟨_, List.getElem?_eq_getElem (by omega)⟩
            have hbt := (HSW.out _ (List.mem_of_getElem? hp)).2
            obtain ⟨b, off, rfl, p0, p1, p2⟩ := (HSP.out.ext (HX1.out.trans (HX2.out.trans (HXB.out.trans HX.out)))) i _ hp
            obtain ⟨kk, hk1, hkk⟩ := and_one cp
            obtain ⟨y0, y1, y2, y3⟩ := HMB.out wr HX.out
            simp only at hbt p0 p1 p2
            have hi1 : (i : Int) < (ll : Int) := by omega
            have hbs : b < wr.heap.size := World.block_lt_of_cell? wr ⟨b, off + i * 3, none⟩ p0
            have hcase : (vs = true ∧ 7 ≤ n ∧ 0 ≤ bt ∧ bt < 18) ∨ (vs = false ∧ 0 ≤ bt ∧ bt < 15) ∨ (vs = true ∧ (n < 7 ∨ bt < 0 ∨ 18 ≤ bt)) ∨ (vs = false ∧ (bt < 0 ∨ 15 ≤ bt)) := by
              cases vs
              · by_cases e1 : 0 ≤ bt ∧ bt < 15
                · exact .inr (.inl ⟨rfl, e1⟩)
                · exact .inr (.inr (.inr ⟨rfl, by omega⟩))
              · by_cases e1 : 7 ≤ n ∧ 0 ≤ bt ∧ bt < 18
                · exact .inl ⟨rfl, e1⟩
                · exact .inr (.inr (.inl ⟨rfl, by omega⟩))
            have hn40 : (n : Int) ≤ 40 := by omega
            clear hp
            rcases hcase with ⟨rfl, h7, hb0, hb1⟩ | ⟨rfl, hb0, hb1⟩ | ⟨rfl, hno⟩ | ⟨rfl, hno⟩
            · obtain ⟨bi, rfl⟩ := Int.eq_ofNat_of_zero_le hb0
              have hbi : bi < 18 := by omega
              obtain ⟨hpx, hpy, hst⟩ := HIV.out h7 kk bi hk1 hbi
              have HC := fun V => HVA h7 kk bi V hk1 hbi
              generalize vrAt k kk bi = p at hpx hpy hst HC
              obtain ⟨px, py⟩ := p
              simp only at hpx hpy HC
              skip
              obtain ⟨zi, hzi⟩ : ∃ zi, zi = posOf k (px, py) := ⟨_, rfl⟩
              obtain ⟨P, hP⟩ : ∃ P, P = py * k := ⟨_, rfl⟩
              have hPz : P + px = zi := by rw [hzi, hP]; rfl
              have hmul : (py : Int) * (k : Int) = (P : Int) := by rw [hP, Int.natCast_mul]
              have hzI : (P : Int) + (px : Int) = (zi : Int) := by omega
              have hzQ : zi < Q := by
                have h9 : (py + 1) * k ≤ k * k := Nat.mul_le_mul_right _ hpy
                rw [Nat.add_mul] at h9
                have := HQ.out
                omega
              have hw1 : IntKind.i64.wrap ((P : Nat) : Int) = (P : Int) := IntWalk.i64_in _ ⟨by omega, by omega⟩
              have hw2 : IntKind.i64.wrap ((zi : Nat) : Int) = (zi : Int) := IntWalk.i64_in _ ⟨by omega, by omega⟩
              have hzq : (zi : Int) < (Q : Int) := by omega
              rw [← hzi] at hst
              have HSTEP := Lib.hid (hst xs cs HIN.out)
              obtain ⟨G, hG⟩ : ∃ G, G = kk + 2 := ⟨_, rfl⟩
              rw [← hG] at HSTEP
              have hGI : (kk : Int) + 2 = (G : Int) := by omega
              have hG4 : G < 4 := by omega
              have h7' : (7 : Int) ≤ (n : Int) := by omega
              clear hzi hP hPz hst hG
              skip
              go_upto_region 18 with fail
              obtain ⟨WA, hWA⟩ : ∃ WA, WA = wr.alloc (.cells #[.int .i64 0, .int .i64 0] 45) := ⟨_, rfl⟩
              have hgA : WA.heap[wr.heap.size]? = some (.cells #[.int .i64 0, .int .i64 0] 45 (0, 0)) := by rw [hWA]; exact heap_alloc_new wr _
              have hXA : Ext wr WA := by rw [hWA]; exact Ext.alloc _ _
              rw [← hWA]
              clear hWA
              have b0 := fun V (hv : Ext wr V) => (HMB.out V (HX.out.trans hv)).1
              have b1 := fun V (hv : Ext wr V) => hv.cell p1
              refine wp_region_held_drew (S := fun V => Ext wr V) (by kernel_rfl) (hXA.trans (Ext.drew _)) (fun hcur => ?_)
              skip
              refine wpAnyH_take (i := 0) (v := ?_) rfl (by kernel_rfl) (by kernel_rfl) (by kernel_rfl) (fun _ _ _ h => h) (Or.inl ⟨by rfl, ?_⟩) (by assumption) ?_
              rotate_left
              · (intro w hSw; try dsimp only at hSw); go_simp; try with_reducible rfl
              simp only [List.getElem_toArray, List.getElem_cons_zero, Act.put, List.setIfInBounds_toArray, List.set_cons_zero, List.set_cons_succ]
              skip
              refine wpAnyH_take (i := 1) (v := ?_) rfl (by kernel_rfl) (by kernel_rfl) (by kernel_rfl) (fun _ _ _ h => h) (Or.inl ⟨by rfl, ?_⟩) (by assumption) ?_
              rotate_left
              · (intro w hSw; try dsimp only at hSw); go_simp; try with_reducible rfl
              simp only [List.getElem_toArray, List.getElem_cons_zero, List.getElem_cons_succ, Act.put, List.setIfInBounds_toArray, List.set_cons_zero, List.set_cons_succ]
              skip
              refine wpAnyH_take (i := 2) (v := ?_) rfl (by kernel_rfl) (by kernel_rfl) (by kernel_rfl) (fun _ _ _ h => h) (Or.inl ⟨by rfl, ?_⟩) (by assumption) ?_
              rotate_left
              · (intro w hSw; try dsimp only at hSw); go_simp; try with_reducible rfl
              simp only [List.getElem_toArray, List.getElem_cons_zero, List.getElem_cons_succ, Act.put, List.setIfInBounds_toArray, List.set_cons_zero, List.set_cons_succ]
              skip
              refine wpAnyH_take (i := 3) (v := ?_) rfl (by kernel_rfl) (by kernel_rfl) (by kernel_rfl) (fun _ _ _ h => h) (Or.inl ⟨by rfl, ?_⟩) (by assumption) ?_
              rotate_left
              · (intro w hSw; try dsimp only at hSw); go_simp; try with_reducible rfl
              simp only [List.getElem_toArray, List.getElem_cons_zero, List.getElem_cons_succ, Act.put, List.setIfInBounds_toArray, List.set_cons_zero, List.set_cons_succ]
              skip
              refine wpAnyH_take (i := 4) (v := ?_) rfl (by kernel_rfl) (by kernel_rfl) (by kernel_rfl) (fun _ _ _ h => h) (Or.inl ⟨by rfl, ?_⟩) (by assumption) ?_
              rotate_left
              · (intro w hSw; try dsimp only at hSw); go_simp; try with_reducible rfl
              simp only [List.getElem_toArray, List.getElem_cons_zero, List.getElem_cons_succ, Act.put, List.setIfInBounds_toArray, List.set_cons_zero, List.set_cons_succ]
              skip
              refine wpAnyH_take (i := 5) (v := ?_) rfl (by kernel_rfl) (by kernel_rfl) (by kernel_rfl) (fun _ _ _ h => h) (Or.inl ⟨by rfl, ?_⟩) (by assumption) ?_
              rotate_left
              · (intro w hSw; try dsimp only at hSw); go_simp; try with_reducible rfl
              simp only [List.getElem_toArray, List.getElem_cons_zero, List.getElem_cons_succ, Act.put, List.setIfInBounds_toArray, List.set_cons_zero, List.set_cons_succ]
              skip
              refine wpAnyH_take (i := 6) (v := ?_) rfl (by kernel_rfl) (by kernel_rfl) (by kernel_rfl) (fun _ _ _ h => h) (Or.inl ⟨by rfl, ?_⟩) (by assumption) ?_
              rotate_left
              · (intro w hSw; try dsimp only at hSw); go_simp; try with_reducible rfl
              simp only [List.getElem_toArray, List.getElem_cons_zero, List.getElem_cons_succ, Act.put, List.setIfInBounds_toArray, List.set_cons_zero, List.set_cons_succ]
              skip
              refine wpAnyH_take (i := 7) (v := ?_) rfl (by kernel_rfl) (by kernel_rfl) (by kernel_rfl) (fun _ _ _ h => h) (Or.inl ⟨by rfl, ?_⟩) (by assumption) ?_
              rotate_left
              · (intro w hSw; try dsimp only at hSw); go_simp; try with_reducible rfl
              simp only [List.getElem_toArray, List.getElem_cons_zero, List.getElem_cons_succ, Act.put, List.setIfInBounds_toArray, List.set_cons_zero, List.set_cons_succ]
              refine wpAnyH_ready (rs := [8]) (by kernel_rfl) (by simp) ?_
              refine AllReadyH.cons rfl (fun K hK => ?_) AllReadyH.nil
              go_simp
              go_at_call 21
              (with_reducible refine (HC _).out.mono ?_)
              rintro e w6 ⟨rfl, hx6⟩
              have hS6 : Ext wr w6 := hcur.trans hx6
              have hg6 : w6.heap[wr.heap.size]? = some (.cells #[.int .i64 0, .int .i64 0] 45 (0, 0)) := ((Ext.drew WA).trans hx6).old hgA
              go_wp2_with fail
              refine hK.out _ _ hS6 (fun _ => ?_)
              clear hK K
              refine wpAnyH_law 9 (by kernel_rfl) rfl rfl (wp_storeK 45 _ _ rfl wr.heap.size _ rfl rfl 45 _ hg6 (by kernel_rfl) (by kernel_rfl) (by kernel_rfl) wr hS6 (Nat.le_refl _) ?_)
              intro w7 hX7 hg7 hk7
              refine ⟨hX7, ?_⟩
              refine wpAnyH_done (by kernel_rfl) ?_ _
              have HX7 := Lib.hid hX7
              have q0 : w7.cell? ⟨wr.heap.size, 0, none⟩ = some (.int .i64 ((px : Nat) : Int)) := by rw [cell_of_row _ _ _ _ _ _ hg7]; rfl
              have q1 : w7.cell? ⟨wr.heap.size, 1, none⟩ = some (.int .i64 ((py : Nat) : Int)) := by rw [cell_of_row _ _ _ _ _ _ hg7]; rfl
              have y0 := (HMB.out w7 (HX.out.trans hX7)).1
              clear hgA hXA b0 b1 hS6 hg6 hx6 hX7 hg7 hk7 hcur
              have n0 : w7.cell? ⟨gn, G, none⟩ = some (.int .i64 ((cs.getD G 0 : Nat) : Int)) := by
                rw [cell_of_row _ _ _ _ _ _ (HX7.out.old HN.out)]
                exact nA_at cs G (by have := HIN.out.len; omega)
              obtain ⟨s0, s1⟩ := own_cell (own_extN HS.out HX7.out) zi _ (bools_get sn zi (by have := HLN.out.2; omega))
              obtain ⟨d0, d1⟩ := own_cell (own_extN HD.out HX7.out) zi _ (bools_get xs zi (by have := HLN.out.1; omega))
              have hG3 := HIN.out.le G hG4
              have hNG := nA_at cs G (by have := HIN.out.len; omega)
              have HNS := fun c => Lib.hid (nA_set cs G c)
              generalize cs.getD G 0 = cg at hG3 n0 HSTEP hNG
              by_cases hc3 : cg < 3
              · have hc3' : (cg : Int) < 3 := by omega
                cases hsv : sn.getD zi false
                · rw [hsv] at s0
                  go_upto_region 25 with fail
                  obtain ⟨W8, hW8⟩ : ∃ W8, W8 = w7.setCell ⟨gq, zi, none⟩ (.bool true) := ⟨_, rfl⟩
                  obtain ⟨e1, e2, e3, e4, e5⟩ := HGE.out
                  have hN8 : W8.heap[gn]? = some (.cells (nA cs) 41 (0, 0)) := by rw [hW8]; exact (heap_set _ _ _ _ _ (by omega)).trans (HX7.out.old HN.out)
                  have hB8 : W8.heap[gs]? = some (.cells #[.int .i64 ((k : Nat) : Int), .int .i64 ((k : Nat) : Int), .slice (some ⟨g3, 0, none⟩) Q c3] 24 (0, 0)) := by rw [hW8]; exact (heap_set _ _ _ _ _ (by omega)).trans (HX7.out.old HB.out)
                  have hS8 : W8.ownsRow WB.heap.size 4 1 (.slice (some ⟨gq, 0, none⟩) Q Q) Q (bools (sn.set zi true)) := by rw [hW8, bools_set]; exact own_set (own_extN HS.out HX7.out) zi _
                  have hD8 : W8.ownsRow WB.heap.size 4 1 (.slice (some ⟨g3, 0, none⟩) Q c3) Q (bools xs) := by rw [hW8]; exact own_off (own_extN HD.out HX7.out) (fun k' hk' => heap_set _ _ _ _ _ hk') (by simp [Value.ownBlock]; omega)
                  have hX8 : Ext WB W8 := by rw [hW8]; exact (HX.out.trans HX7.out).set (by omega) _ _
                  rw [← hW8]
                  have n8 : W8.cell? ⟨gn, G, none⟩ = some (.int .i64 ((cg : Nat) : Int)) := by rw [cell_of_row _ _ _ _ _ _ hN8]; exact hNG
                  have f8 := frozen_row hN8 G
                  clear hW8 s0 s1 d0 d1 n0
                  go_upto_region 26 with fail
                  obtain ⟨W9, hW9⟩ : ∃ W9, W9 = W8.setCell ⟨gn, G, none⟩ (.int .i64 ((cg : Int) + 1)) := ⟨_, rfl⟩
                  have hN9 : W9.heap[gn]? = some (.cells (nA (cs.set G (cg + 1))) 41 (0, 0)) := by rw [hW9, ← (HNS cg).out]; exact Go.Lib.heap_setCell_same hN8 _
                  have hB9 : W9.heap[gs]? = some (.cells #[.int .i64 ((k : Nat) : Int), .int .i64 ((k : Nat) : Int), .slice (some ⟨g3, 0, none⟩) Q c3] 24 (0, 0)) := by rw [hW9]; exact (heap_set _ _ _ _ _ (by omega)).trans hB8
                  have hS9 : W9.ownsRow WB.heap.size 4 1 (.slice (some ⟨gq, 0, none⟩) Q Q) Q (bools (sn.set zi true)) := by rw [hW9]; exact own_off hS8 (fun k' hk' => heap_set _ _ _ _ _ hk') (by simp [Value.ownBlock]; omega)
                  have hD9 : W9.ownsRow WB.heap.size 4 1 (.slice (some ⟨g3, 0, none⟩) Q c3) Q (bools xs) := by rw [hW9]; exact own_off hD8 (fun k' hk' => heap_set _ _ _ _ _ hk') (by simp [Value.ownBlock]; omega)
                  have hX9 : Ext WB W9 := by rw [hW9]; exact hX8.set (by omega) _ _
                  rw [← hW9]
                  clear hW9 n8 f8 hN8 hB8 hS8 hD8 hX8
                  have m9 := (cells3 hB9).2.2
                  obtain ⟨d0, d1⟩ := own_cell hD9 zi _ (bools_get xs zi (by have := HLN.out.1; omega))
                  go_region
                  go_wp2_with fail
                  refine ⟨⟨i + 1, by omega, by rw [Int.natCast_succ], xs.set zi (!xs.getD zi false), sn.set zi true, cs.set G (cg + 1), Lib.hid (HSTEP.out hc3 _), Lib.hid ?_, Lib.hid ?_, Lib.hid ?_, Lib.hid ?_, Lib.hid ?_, Lib.hid ?_, Lib.hid ?_⟩, by simp [intOf]; omega⟩
                  · exact ⟨by rw [List.length_set]; exact HLN.out.1, by rw [List.length_set]; exact HLN.out.2⟩
                  · rw [bools_set]
                    exact own_set (own_extN hD9 (Ext.drew W9)) zi _
                  · exact own_off (own_extN hS9 (Ext.drew W9)) (fun k' hk' => heap_set _ _ _ _ _ hk') (by simp [Value.ownBlock]; omega)
                  · exact (heap_set _ _ _ _ _ (by omega)).trans hB9
                  · exact (heap_set _ _ _ _ _ (by omega)).trans hN9
                  · exact (hX9.trans (Ext.drew W9)).set (by omega) _ _
                  · refine Nat.lt_of_lt_of_le ?_ (Ext.drew _).size
                    rw [World.size_setCell]
                    obtain ⟨g, c, e, _, hlt, _⟩ := own_ptr hS9 (by omega)
                    cases e
                    exact hlt
                · rw [hsv] at s0
                  go_wp2_with fail
                  exact ⟨⟨i + 1, by omega, by rw [Int.natCast_succ], xs, sn, cs, HIN, HLN, Lib.hid (own_extN HD.out HX7.out), Lib.hid (own_extN HS.out HX7.out), Lib.hid (HX7.out.old HB.out), Lib.hid (HX7.out.old HN.out), Lib.hid (HX.out.trans HX7.out), Lib.hid (Nat.lt_of_lt_of_le HG.out HX7.out.size)⟩, by simp [intOf]; omega⟩
              · have hc3' : ¬ (cg : Int) < 3 := by omega
                go_wp2_with fail
                exact ⟨⟨i + 1, by omega, by rw [Int.natCast_succ], xs, sn, cs, HIN, HLN, Lib.hid (own_extN HD.out HX7.out), Lib.hid (own_extN HS.out HX7.out), Lib.hid (HX7.out.old HB.out), Lib.hid (HX7.out.old HN.out), Lib.hid (HX.out.trans HX7.out), Lib.hid (Nat.lt_of_lt_of_le HG.out HX7.out.size)⟩, by simp [intOf]; omega⟩
            · obtain ⟨bi, rfl⟩ := Int.eq_ofNat_of_zero_le hb0
              have hbi : bi < 15 := by omega
              obtain ⟨hpx, hpy, hst⟩ := HIF.out kk bi hk1 hbi
              have HC := fun V => HFA kk bi V hk1 hbi
              generalize fmAt k kk bi = p at hpx hpy hst HC
              obtain ⟨px, py⟩ := p
              simp only at hpx hpy HC
              skip
              obtain ⟨zi, hzi⟩ : ∃ zi, zi = posOf k (px, py) := ⟨_, rfl⟩
              obtain ⟨P, hP⟩ : ∃ P, P = py * k := ⟨_, rfl⟩
              have hPz : P + px = zi := by rw [hzi, hP]; rfl
              have hmul : (py : Int) * (k : Int) = (P : Int) := by rw [hP, Int.natCast_mul]
              have hzI : (P : Int) + (px : Int) = (zi : Int) := by omega
              have hzQ : zi < Q := by
                have h9 : (py + 1) * k ≤ k * k := Nat.mul_le_mul_right _ hpy
                rw [Nat.add_mul] at h9
                have := HQ.out
                omega
              have hw1 : IntKind.i64.wrap ((P : Nat) : Int) = (P : Int) := IntWalk.i64_in _ ⟨by omega, by omega⟩
              have hw2 : IntKind.i64.wrap ((zi : Nat) : Int) = (zi : Int) := IntWalk.i64_in _ ⟨by omega, by omega⟩
              have hzq : (zi : Int) < (Q : Int) := by omega
              rw [← hzi] at hst
              have HSTEP := Lib.hid (hst xs cs HIN.out)
              obtain ⟨G, hG⟩ : ∃ G, G = kk := ⟨_, rfl⟩
              rw [← hG] at HSTEP
              rw [← hG] at hkk HC
              have hG4 : G < 4 := by omega
              clear hzi hP hPz hst hG
              skip
              go_upto_region 21 with fail
              obtain ⟨WA, hWA⟩ : ∃ WA, WA = wr.alloc (.cells #[.int .i64 0, .int .i64 0] 45) := ⟨_, rfl⟩
              have hgA : WA.heap[wr.heap.size]? = some (.cells #[.int .i64 0, .int .i64 0] 45 (0, 0)) := by rw [hWA]; exact heap_alloc_new wr _
              have hXA : Ext wr WA := by rw [hWA]; exact Ext.alloc _ _
              rw [← hWA]
              clear hWA
              have b0 := fun V (hv : Ext wr V) => (HMB.out V (HX.out.trans hv)).1
              have b1 := fun V (hv : Ext wr V) => hv.cell p1
              refine wp_region_held_drew (S := fun V => Ext wr V) (by kernel_rfl) (hXA.trans (Ext.drew _)) (fun hcur => ?_)
              skip
              refine wpAnyH_take (i := 0) (v := ?_) rfl (by kernel_rfl) (by kernel_rfl) (by kernel_rfl) (fun _ _ _ h => h) (Or.inl ⟨by rfl, ?_⟩) (by assumption) ?_
              rotate_left
              · (intro w hSw; try dsimp only at hSw); go_simp; try with_reducible rfl
              simp only [List.getElem_toArray, List.getElem_cons_zero, Act.put, List.setIfInBounds_toArray, List.set_cons_zero, List.set_cons_succ]
              skip
              refine wpAnyH_take (i := 1) (v := ?_) rfl (by kernel_rfl) (by kernel_rfl) (by kernel_rfl) (fun _ _ _ h => h) (Or.inl ⟨by rfl, ?_⟩) (by assumption) ?_
              rotate_left
              · (intro w hSw; try dsimp only at hSw); go_simp; try with_reducible rfl
              simp only [List.getElem_toArray, List.getElem_cons_zero, List.getElem_cons_succ, Act.put, List.setIfInBounds_toArray, List.set_cons_zero, List.set_cons_succ]
              skip
              refine wpAnyH_take (i := 2) (v := ?_) rfl (by kernel_rfl) (by kernel_rfl) (by kernel_rfl) (fun _ _ _ h => h) (Or.inl ⟨by rfl, ?_⟩) (by assumption) ?_
              rotate_left
              · (intro w hSw; try dsimp only at hSw); go_simp; try with_reducible rfl
              simp only [List.getElem_toArray, List.getElem_cons_zero, List.getElem_cons_succ, Act.put, List.setIfInBounds_toArray, List.set_cons_zero, List.set_cons_succ]
              skip
              refine wpAnyH_take (i := 3) (v := ?_) rfl (by kernel_rfl) (by kernel_rfl) (by kernel_rfl) (fun _ _ _ h => h) (Or.inl ⟨by rfl, ?_⟩) (by assumption) ?_
              rotate_left
              · (intro w hSw; try dsimp only at hSw); go_simp; try with_reducible rfl
              simp only [List.getElem_toArray, List.getElem_cons_zero, List.getElem_cons_succ, Act.put, List.setIfInBounds_toArray, List.set_cons_zero, List.set_cons_succ]
              skip
              refine wpAnyH_take (i := 4) (v := ?_) rfl (by kernel_rfl) (by kernel_rfl) (by kernel_rfl) (fun _ _ _ h => h) (Or.inl ⟨by rfl, ?_⟩) (by assumption) ?_
              rotate_left
              · (intro w hSw; try dsimp only at hSw); go_simp; try with_reducible rfl
              simp only [List.getElem_toArray, List.getElem_cons_zero, List.getElem_cons_succ, Act.put, List.setIfInBounds_toArray, List.set_cons_zero, List.set_cons_succ]
              skip
              refine wpAnyH_take (i := 5) (v := ?_) rfl (by kernel_rfl) (by kernel_rfl) (by kernel_rfl) (fun _ _ _ h => h) (Or.inl ⟨by rfl, ?_⟩) (by assumption) ?_
              rotate_left
              · (intro w hSw; try dsimp only at hSw); go_simp; try with_reducible rfl
              simp only [List.getElem_toArray, List.getElem_cons_zero, List.getElem_cons_succ, Act.put, List.setIfInBounds_toArray, List.set_cons_zero, List.set_cons_succ]
              skip
              refine wpAnyH_take (i := 6) (v := ?_) rfl (by kernel_rfl) (by kernel_rfl) (by kernel_rfl) (fun _ _ _ h => h) (Or.inl ⟨by rfl, ?_⟩) (by assumption) ?_
              rotate_left
              · (intro w hSw; try dsimp only at hSw); go_simp; try with_reducible rfl
              simp only [List.getElem_toArray, List.getElem_cons_zero, List.getElem_cons_succ, Act.put, List.setIfInBounds_toArray, List.set_cons_zero, List.set_cons_succ]
              skip
              refine wpAnyH_take (i := 7) (v := ?_) rfl (by kernel_rfl) (by kernel_rfl) (by kernel_rfl) (fun _ _ _ h => h) (Or.inl ⟨by rfl, ?_⟩) (by assumption) ?_
              rotate_left
              · (intro w hSw; try dsimp only at hSw); go_simp; try with_reducible rfl
              simp only [List.getElem_toArray, List.getElem_cons_zero, List.getElem_cons_succ, Act.put, List.setIfInBounds_toArray, List.set_cons_zero, List.set_cons_succ]
              refine wpAnyH_ready (rs := [8]) (by kernel_rfl) (by simp) ?_
              refine AllReadyH.cons rfl (fun K hK => ?_) AllReadyH.nil
              go_simp
              go_at_call 22
              (with_reducible refine (HC _).out.mono ?_)
              rintro e w6 ⟨rfl, hx6⟩
              have hS6 : Ext wr w6 := hcur.trans hx6
              have hg6 : w6.heap[wr.heap.size]? = some (.cells #[.int .i64 0, .int .i64 0] 45 (0, 0)) := ((Ext.drew WA).trans hx6).old hgA
              go_wp2_with fail
              refine hK.out _ _ hS6 (fun _ => ?_)
              clear hK K
              refine wpAnyH_law 9 (by kernel_rfl) rfl rfl (wp_storeK 45 _ _ rfl wr.heap.size _ rfl rfl 45 _ hg6 (by kernel_rfl) (by kernel_rfl) (by kernel_rfl) wr hS6 (Nat.le_refl _) ?_)
              intro w7 hX7 hg7 hk7
              refine ⟨hX7, ?_⟩
              refine wpAnyH_done (by kernel_rfl) ?_ _
              have HX7 := Lib.hid hX7
              have q0 : w7.cell? ⟨wr.heap.size, 0, none⟩ = some (.int .i64 ((px : Nat) : Int)) := by rw [cell_of_row _ _ _ _ _ _ hg7]; rfl
              have q1 : w7.cell? ⟨wr.heap.size, 1, none⟩ = some (.int .i64 ((py : Nat) : Int)) := by rw [cell_of_row _ _ _ _ _ _ hg7]; rfl
              have y0 := (HMB.out w7 (HX.out.trans hX7)).1
              clear hgA hXA b0 b1 hS6 hg6 hx6 hX7 hg7 hk7 hcur
              have n0 : w7.cell? ⟨gn, G, none⟩ = some (.int .i64 ((cs.getD G 0 : Nat) : Int)) := by
                rw [cell_of_row _ _ _ _ _ _ (HX7.out.old HN.out)]
                exact nA_at cs G (by have := HIN.out.len; omega)
              obtain ⟨s0, s1⟩ := own_cell (own_extN HS.out HX7.out) zi _ (bools_get sn zi (by have := HLN.out.2; omega))
              obtain ⟨d0, d1⟩ := own_cell (own_extN HD.out HX7.out) zi _ (bools_get xs zi (by have := HLN.out.1; omega))
              have hG3 := HIN.out.le G hG4
              have hNG := nA_at cs G (by have := HIN.out.len; omega)
              have HNS := fun c => Lib.hid (nA_set cs G c)
              generalize cs.getD G 0 = cg at hG3 n0 HSTEP hNG
              by_cases hc3 : cg < 3
              · have hc3' : (cg : Int) < 3 := by omega
                cases hsv : sn.getD zi false
                · rw [hsv] at s0
                  go_upto_region 25 with fail
                  obtain ⟨W8, hW8⟩ : ∃ W8, W8 = w7.setCell ⟨gq, zi, none⟩ (.bool true) := ⟨_, rfl⟩
                  obtain ⟨e1, e2, e3, e4, e5⟩ := HGE.out
                  have hN8 : W8.heap[gn]? = some (.cells (nA cs) 41 (0, 0)) := by rw [hW8]; exact (heap_set _ _ _ _ _ (by omega)).trans (HX7.out.old HN.out)
                  have hB8 : W8.heap[gs]? = some (.cells #[.int .i64 ((k : Nat) : Int), .int .i64 ((k : Nat) : Int), .slice (some ⟨g3, 0, none⟩) Q c3] 24 (0, 0)) := by rw [hW8]; exact (heap_set _ _ _ _ _ (by omega)).trans (HX7.out.old HB.out)
                  have hS8 : W8.ownsRow WB.heap.size 4 1 (.slice (some ⟨gq, 0, none⟩) Q Q) Q (bools (sn.set zi true)) := by rw [hW8, bools_set]; exact own_set (own_extN HS.out HX7.out) zi _
                  have hD8 : W8.ownsRow WB.heap.size 4 1 (.slice (some ⟨g3, 0, none⟩) Q c3) Q (bools xs) := by rw [hW8]; exact own_off (own_extN HD.out HX7.out) (fun k' hk' => heap_set _ _ _ _ _ hk') (by simp [Value.ownBlock]; omega)
                  have hX8 : Ext WB W8 := by rw [hW8]; exact (HX.out.trans HX7.out).set (by omega) _ _
                  rw [← hW8]
                  have n8 : W8.cell? ⟨gn, G, none⟩ = some (.int .i64 ((cg : Nat) : Int)) := by rw [cell_of_row _ _ _ _ _ _ hN8]; exact hNG
                  have f8 := frozen_row hN8 G
                  clear hW8 s0 s1 d0 d1 n0
                  go_upto_region 26 with fail
                  obtain ⟨W9, hW9⟩ : ∃ W9, W9 = W8.setCell ⟨gn, G, none⟩ (.int .i64 ((cg : Int) + 1)) := ⟨_, rfl⟩
                  have hN9 : W9.heap[gn]? = some (.cells (nA (cs.set G (cg + 1))) 41 (0, 0)) := by rw [hW9, ← (HNS cg).out]; exact Go.Lib.heap_setCell_same hN8 _
                  have hB9 : W9.heap[gs]? = some (.cells #[.int .i64 ((k : Nat) : Int), .int .i64 ((k : Nat) : Int), .slice (some ⟨g3, 0, none⟩) Q c3] 24 (0, 0)) := by rw [hW9]; exact (heap_set _ _ _ _ _ (by omega)).trans hB8
                  have hS9 : W9.ownsRow WB.heap.size 4 1 (.slice (some ⟨gq, 0, none⟩) Q Q) Q (bools (sn.set zi true)) := by rw [hW9]; exact own_off hS8 (fun k' hk' => heap_set _ _ _ _ _ hk') (by simp [Value.ownBlock]; omega)
                  have hD9 : W9.ownsRow WB.heap.size 4 1 (.slice (some ⟨g3, 0, none⟩) Q c3) Q (bools xs) := by rw [hW9]; exact own_off hD8 (fun k' hk' => heap_set _ _ _ _ _ hk') (by simp [Value.ownBlock]; omega)
                  have hX9 : Ext WB W9 := by rw [hW9]; exact hX8.set (by omega) _ _
                  rw [← hW9]
                  clear hW9 n8 f8 hN8 hB8 hS8 hD8 hX8
                  have m9 := (cells3 hB9).2.2
                  obtain ⟨d0, d1⟩ := own_cell hD9 zi _ (bools_get xs zi (by have := HLN.out.1; omega))
                  go_region
                  go_wp2_with fail
                  refine ⟨⟨i + 1, by omega, by rw [Int.natCast_succ], xs.set zi (!xs.getD zi false), sn.set zi true, cs.set G (cg + 1), Lib.hid (HSTEP.out hc3 _), Lib.hid ?_, Lib.hid ?_, Lib.hid ?_, Lib.hid ?_, Lib.hid ?_, Lib.hid ?_, Lib.hid ?_⟩, by simp [intOf]; omega⟩
                  · exact ⟨by rw [List.length_set]; exact HLN.out.1, by rw [List.length_set]; exact HLN.out.2⟩
                  · rw [bools_set]
                    exact own_set (own_extN hD9 (Ext.drew W9)) zi _
                  · exact own_off (own_extN hS9 (Ext.drew W9)) (fun k' hk' => heap_set _ _ _ _ _ hk') (by simp [Value.ownBlock]; omega)
                  · exact (heap_set _ _ _ _ _ (by omega)).trans hB9
                  · exact (heap_set _ _ _ _ _ (by omega)).trans hN9
                  · exact (hX9.trans (Ext.drew W9)).set (by omega) _ _
                  · refine Nat.lt_of_lt_of_le ?_ (Ext.drew _).size
                    rw [World.size_setCell]
                    obtain ⟨g, c, e, _, hlt, _⟩ := own_ptr hS9 (by omega)
                    cases e
                    exact hlt
                · rw [hsv] at s0
                  go_wp2_with fail
                  exact ⟨⟨i + 1, by omega, by rw [Int.natCast_succ], xs, sn, cs, HIN, HLN, Lib.hid (own_extN HD.out HX7.out), Lib.hid (own_extN HS.out HX7.out), Lib.hid (HX7.out.old HB.out), Lib.hid (HX7.out.old HN.out), Lib.hid (HX.out.trans HX7.out), Lib.hid (Nat.lt_of_lt_of_le HG.out HX7.out.size)⟩, by simp [intOf]; omega⟩
              · have hc3' : ¬ (cg : Int) < 3 := by omega
                go_wp2_with fail
                exact ⟨⟨i + 1, by omega, by rw [Int.natCast_succ], xs, sn, cs, HIN, HLN, Lib.hid (own_extN HD.out HX7.out), Lib.hid (own_extN HS.out HX7.out), Lib.hid (HX7.out.old HB.out), Lib.hid (HX7.out.old HN.out), Lib.hid (HX.out.trans HX7.out), Lib.hid (Nat.lt_of_lt_of_le HG.out HX7.out.size)⟩, by simp [intOf]; omega⟩
            · rcases hno with h | h | h
              · have hz : (n : Int) < 7 := by omega
                go_wp2_with fail
                all_goals refine ⟨⟨i + 1, by omega, by rw [Int.natCast_succ], xs, sn, cs, HIN, HLN, Lib.hid (own_extN HD.out (Ext.alloc _ _)), Lib.hid (own_extN HS.out (Ext.alloc _ _)), Lib.hid ((Ext.alloc _ _).old HB.out), Lib.hid ((Ext.alloc _ _).old HN.out), Lib.hid (HX.out.trans (Ext.alloc _ _)), Lib.hid (Nat.lt_of_lt_of_le HG.out (Ext.alloc _ _).size)⟩, by simp [intOf]; omega⟩
              · skip
                go_wp2_with fail
                all_goals refine ⟨⟨i + 1, by omega, by rw [Int.natCast_succ], xs, sn, cs, HIN, HLN, Lib.hid (own_extN HD.out (Ext.alloc _ _)), Lib.hid (own_extN HS.out (Ext.alloc _ _)), Lib.hid ((Ext.alloc _ _).old HB.out), Lib.hid ((Ext.alloc _ _).old HN.out), Lib.hid (HX.out.trans (Ext.alloc _ _)), Lib.hid (Nat.lt_of_lt_of_le HG.out (Ext.alloc _ _).size)⟩, by simp [intOf]; omega⟩
              · skip
                go_wp2_with fail
                all_goals refine ⟨⟨i + 1, by omega, by rw [Int.natCast_succ], xs, sn, cs, HIN, HLN, Lib.hid (own_extN HD.out (Ext.alloc _ _)), Lib.hid (own_extN HS.out (Ext.alloc _ _)), Lib.hid ((Ext.alloc _ _).old HB.out), Lib.hid ((Ext.alloc _ _).old HN.out), Lib.hid (HX.out.trans (Ext.alloc _ _)), Lib.hid (Nat.lt_of_lt_of_le HG.out (Ext.alloc _ _).size)⟩, by simp [intOf]; omega⟩
            · rcases hno with h | h
              · skip
                go_wp2_with fail
                all_goals refine ⟨⟨i + 1, by omega, by rw [Int.natCast_succ], xs, sn, cs, HIN, HLN, Lib.hid (own_extN HD.out (Ext.alloc _ _)), Lib.hid (own_extN HS.out (Ext.alloc _ _)), Lib.hid ((Ext.alloc _ _).old HB.out), Lib.hid ((Ext.alloc _ _).old HN.out), Lib.hid (HX.out.trans (Ext.alloc _ _)), Lib.hid (Nat.lt_of_lt_of_le HG.out (Ext.alloc _ _).size)⟩, by simp [intOf]; omega⟩
              · skip
                go_wp2_with fail
                all_goals refine ⟨⟨i + 1, by omega, by rw [Int.natCast_succ], xs, sn, cs, HIN, HLN, Lib.hid (own_extN HD.out (Ext.alloc _ _)), Lib.hid (own_extN HS.out (Ext.alloc _ _)), Lib.hid ((Ext.alloc _ _).old HB.out), Lib.hid ((Ext.alloc _ _).old HN.out), Lib.hid (HX.out.trans (Ext.alloc _ _)), Lib.hid (Nat.lt_of_lt_of_le HG.out (Ext.alloc _ _).size)⟩, by simp [intOf]; omega⟩
          · obtain rfl : i = ll := by omega
            obtain ⟨d0, d1, d2⟩ := cells3 HB.out
            have HRW := Lib.hid (row_own HD.out)
            go_wp2_with fail
            refine (HRD xs cs HIN.out HLN.out.1 _ _ c3 HRW.out).out.mono ?_
            rintro e w6 ⟨rfl, hx6⟩
            have HX6 := Lib.hid (HX1.out.trans (HX2.out.trans (HXB.out.trans (HX.out.trans hx6))))
            clear hx6 d0 d1 d2
            go_wp2_with fail
            refine (alive20_any _).mono ?_
            rintro e w7 ⟨rfl, hx7⟩
            go_wp2_with fail
            go_ret
            exact ⟨rfl, HX6.out.trans hx7⟩
      · have HSG := fun (V : World) (a : Option Addr) (c : Nat) (hn0 : a = none → c = 0) (h : Row V a (bools (blankN n))) => Lib.hid (sign_ok n h1 h2 _ a c l m V hbl hn0 h)
        have hfe : ∃ e : Int, e ≠ 0 ∧ ∀ ys, sgRes n ys l m = ((0, 0, []), e) := by
          by_cases hll : l < 1 ∨ 4 < l
          · exact ⟨15, by decide, fun ys => by rw [sgRes_2 (by rw [fmt_lv hll]; decide), fmt_lv hll]⟩
          · exact ⟨3, by decide, fun ys => by rw [sgRes_2 (by rw [fmt_mk (by omega) (by omega) (by omega)]; decide), fmt_mk (by omega) (by omega) (by omega)]⟩
        obtain ⟨e0, he0, hfe⟩ := hfe
        simp only [hfe] at HSG
        unfold RetMat matV at HSG
        simp only [List.length_nil] at HSG
        have he1 : (e0 != 0) = true := by simpa using he0
        have hOR : (decide (l < 1) = true) ∨ (decide (l < 1) = false ∧ decide (l > 4) = true) ∨ (decide (l < 1) = false ∧ decide (l > 4) = false ∧ decide (m < 0) = true) ∨ (decide (l < 1) = false ∧ decide (l > 4) = false ∧ decide (m < 0) = false ∧ decide (m > 7) = true) := by
          simp only [decide_eq_true_eq, decide_eq_false_iff_not]
          omega
        generalize blankN n = xa at *
        generalize sd n * sd n = Q at *
        clear hfe he0 hok hv HSP HSW hbl hll
        go_enter Try.func5, Try.ntmps5
        go_wp2_with fail
        rw [← HW1.out]
        go_quiet (fail)
        go_wp2_with fail
        refine (HBL _).out.mono ?_
        rintro e w2 ⟨s2, rfl, ho2, hx2⟩
        obtain ⟨g2, c2, rfl, l2, b2, t2, r2⟩ := own_row0 ho2 (by omega)
        have HX2 := Lib.hid (((Ext.refl W1).drewN _).trans hx2)
        have HR2 := Lib.hid r2
        clear ho2 hx2 r2 z0 z1 z2
        go_wp2_with fail
        refine (HSG _ _ c2 (fun e => by cases e) (HR2.out.ext (Ext.alloc _ _))).out.mono ?_
        rintro e w3 ⟨s3, rfl, ho3, hx3⟩
        obtain ⟨a3, c3, rfl, l3, m3, -, r3⟩ := own_row ho3
        have HX3 := Lib.hid (HX2.out.trans ((Ext.alloc _ _).trans hx3))
        clear ho3 hx3 r3
        rcases hOR with ho | ⟨ho, ho'⟩ | ⟨ho, ho', ho''⟩ | ⟨ho, ho', ho'', ho3⟩ <;> skip
        all_goals go_wp2_with fail
        all_goals refine (alive20_any _).mono ?_
        all_goals rintro e w4 ⟨rfl, hx4⟩
        all_goals go_wp2_with fail
        all_goals go_ret
        all_goals exact ⟨rfl, HX1.out.trans (HX3.out.trans ((Ext.alloc _ _).trans hx4))⟩
    · have hl50' : 50 < (ll : Int) := by omega
      generalize blankN n = xa at *
      generalize sd n * sd n = Q at *
      clear hv HSP HSW hbl hll hl50
      go_enter Try.func5, Try.ntmps5
      go_wp2_with fail
      rw [← HW1.out]
      go_quiet (fail)
      go_wp2_with fail
      refine (HBL _).out.mono ?_
      rintro e w2 ⟨s2, rfl, ho2, hx2⟩
      obtain ⟨a2, c2, rfl, l2, m2, -, r2⟩ := own_row ho2
      have HX2 := Lib.hid (((Ext.refl W1).drewN _).trans hx2)
      clear ho2 hx2 r2 z0 z1 z2
      go_wp2_with fail
      refine (alive20_any _).mono ?_
      rintro e w3 ⟨rfl, hx3⟩
      go_wp2_with fail
      go_ret
      exact ⟨rfl, HX1.out.trans (HX2.out.trans ((Ext.alloc _ _).trans hx3))⟩
  · simp only [blankRes_2 hv, List.length_nil] at HBL
    go_enter Try.func5, Try.ntmps5
    go_wp2_with fail
    rw [← HW1.out]
    go_quiet (fail)
    go_wp2_with fail
    refine (HBL _).out.mono ?_
    rintro e w2 ⟨s2, rfl, ho2, hx2⟩
    obtain ⟨a2, c2, rfl, l2, m2, -, r2⟩ := own_row ho2
    have HX2 := Lib.hid (((Ext.refl W1).drewN _).trans hx2)
    clear ho2 hx2 r2 z0 z1 z2
    go_wp2_with fail
    refine (alive20_any _).mono ?_
    rintro e w3 ⟨rfl, hx3⟩
    go_wp2_with fail
    go_ret
    exact ⟨rfl, HX1.out.trans (HX2.out.trans ((Ext.alloc _ _).trans hx3))⟩

set_option maxRecDepth 100000 in
theorem qrlayoutReads_lifted (os : Os) (started : os.Started) (H : Type) (enc : TypeId × Value → H) :
    ReturnsInHanded {} Try.checked os 5 .any (Rows.qrlayoutReadsSpec.pre6 enc Try.prog Try.f5 Rows.qrlayoutReadsRow.domain false) (Rows.qrlayoutReadsSpec.post enc Try.prog Try.f5 false true false false) := by
  refine returnsInHanded_of_change (C := Try.checked) Try.own started (by kernel_rfl) Try.func5
    (ChangeSpec.witness6 (enc := enc) (C := Try.checked) false ⟨#[], #[.agg #[.int .i64 0, .int .i64 0, .int .i64 0], .slice none 0 0], []⟩ 8 (by kernel_rfl) (by kernel_rfl) (by kernel_rfl) (by kernel_rfl)) ?_
  intro W base args ds gs before hval0 hW _ _
  have hval : ∀ (j : Nat) t v, Try.f5.params[j]? = some t → args[j]? = some v → Value.okWide Try.prog W .any base t v := hval0
  have hW' := hW
  obtain ⟨p, q, hA0, hV, rfl, _, _⟩ := hW
  have hA : DataW.TrodAll enc Try.prog W 0 (fun _ => true) true Try.f5.params.toList args.toList ds p := hA0
  rw [Try.params5] at hA hval
  obtain ⟨rfl, rfl⟩ := trodVars_none hV
  clear hA0 hval0
  simp only [List.append_nil] at hW'
  have hlt : ∀ x ∈ p, x.block < W.heap.size := fun x hx => by simpa using hW'.lt x hx
  have hstay : ∀ W', Below W.heap.size W W' → _ := fun W' hb => args_stay (enc := enc) Try.laidOut hb _ _ _ _ (by kernel_rfl) hA hlt
  obtain ⟨v0, v1, d0, d1, p0, p1, rfl, rfl, rfl, h0, h1⟩ := trodAll_two hA
  obtain ⟨c0_0, c0_1, c0_2, y0_0, y0_1, y0_2, m0, rfl, rfl, rfl, hy0_0, hy0_1, hy0_2⟩ := open_arr3 Try.underlying39 (by kernel_rfl) (by kernel_rfl) (hval 0 39 v0 rfl rfl) h0
  obtain ⟨x0, ex0, _, wx0⟩ := DataW.trod_int Try.underlying3 hy0_0
  simp at ex0
  subst ex0
  obtain ⟨x1, ex1, _, wx1⟩ := DataW.trod_int Try.underlying3 hy0_1
  simp at ex1
  subst ex1
  obtain ⟨x2, ex2, _, wx2⟩ := DataW.trod_int Try.underlying3 hy0_2
  simp at ex2
  subst ex2
  obtain ⟨fuel3, hf3⟩ := h1
  obtain ⟨aq3, lq3, cq3, rfl⟩ := okWide_slice Try.underlying40 (hval 1 40 v1 rfl rfl)
  obtain ⟨sl3, ao3, len3, cap3, hv3, hl3, hc3, hm3, hr3, hw3⟩ := view_spots Try.underlying40 Try.underlying43 Try.underlying3 (by kernel_rfl) (by kernel_rfl) Try.underlying4 (by kernel_rfl) rfl rfl rfl rfl rfl rfl hf3
  cases hv3
  refine (qrlayoutReads_walk x0 x1 x2 aq3 lq3 cq3 sl3 W (wf_i64_bd wx0) (wf_i64_bd wx1) (wf_i64_bd wx2) hl3 hc3 hm3 hr3 (fun q hq => ⟨wf_i64_bd (hw3 q hq).1, wf_i64_bd (hw3 q hq).2⟩)).mono fun e W' ⟨he, hb⟩ => ?_
  subst he
  exact ⟨_, rfl, _, _, _, [], _, [], hW', trodAll_mk1 (shut_bool Try.underlying4 _), hstay W' hb, rfl, hb.frame _, fun h => by cases h⟩

theorem qrlayoutReads_holds : Rows.QrlayoutReadsSaid :=
  OpenClaim.holds_of_wide 5 Try.f5 rfl rfl rfl rfl rfl rfl rfl ⟨rfl, rfl, rfl, rfl, rfl⟩ rfl rfl rfl rfl rfl (by kernel_rfl) Try.func5 (by kernel_rfl)
    (of_decide_eq_true (by kernel_rfl)) (by unfold Func.isWrapper; first | (rw [if_pos (by decide +kernel)]; kernel_rfl) | (rw [if_neg (by decide +kernel)]; exact ⟨rfl, rfl⟩))
    (fun os started H enc _ => qrlayoutReads_lifted os started H enc)


end Go.Proofs.Ytjkpdhcnklgfbaa
