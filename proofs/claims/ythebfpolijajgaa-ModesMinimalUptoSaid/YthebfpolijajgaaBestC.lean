/-
  The contract of (*window).choose.
  Conditions: the blocks' cells are given; small numbers.
The contract of modes.newWindow.
  Conditions: the mode is one of the three; small numbers.
What choose chooses is the least of all candidates; the table of plans in memory.
  Conditions stand in each lemma.
The contract of modes.Best.
  Conditions: the slice's cells are those of the list.
Laws for the walk of modes.Best: tables made and stored into; the segments of the best plan.
  Conditions stand in each lemma.
The contract of modes.Best.
  Conditions: the slice's cells are those of the list.
-/
import Derived.Test.YthebfpolijajgaaBestB
import Derived.Deep.RegionHeld3
import Derived.Test.YthebfpolijajgaaModeM
import Derived.Deep.MidRow
namespace Go.Proofs.Ythebfpolijajgaa
open Go.RowKit Go.Bs Go.Mode

/-- The better one of a plan and the best one of a queue. -/
def pickB (m : Int) (k at_ : Nat) (F : Nat → Pl) (b : Pl) : List Nat → Pl
  | [] => b
  | e :: _ => if (candP m k (e - at_) (F e)).lt b then candP m k (e - at_) (F e) else b
/-- The front of a queue without the ends that are too far away. -/
def Popped (lim at_ : Nat) (Q Q' : List Nat) : Prop := ∃ c, Q' = Q.drop c ∧ (∀ x e, Q[x]? = some e → x < c → lim < e - at_) ∧ (∀ e, Q[c]? = some e → e - at_ ≤ lim)
def picks (m : Int) (k at_ : Nat) (F : Nat → Pl) (b : Pl) (Q : Nat → List Nat) (j : Nat) : Pl := (List.range j).foldl (fun b i => pickB m k at_ F b (Q i)) b
theorem picks_succ (m : Int) (k at_ : Nat) (F : Nat → Pl) (b : Pl) (Q : Nat → List Nat) (j : Nat) : picks m k at_ F b Q (j + 1) = pickB m k at_ F (picks m k at_ F b Q j) (Q j) := by simp [picks, List.range_succ]
theorem picks_upd (m : Int) (k at_ : Nat) (F : Nat → Pl) (b : Pl) (Q : Nat → List Nat) (j : Nat) (L : List Nat) : picks m k at_ F b (upd Q j L) j = picks m k at_ F b Q j := by
  have : ∀ i, i ≤ j → picks m k at_ F b (upd Q j L) i = picks m k at_ F b Q i := by
    intro i
    induction i with
    | zero => intro _; rfl
    | succ i ih => intro h; rw [picks_succ, picks_succ, ih (by omega), upd, if_neg (by omega)]
  exact this j (Nat.le_refl _)

def ChoosePost (w : World) (g h : Nat) (m : Int) (k n r at_ : Nat) (Q : Nat → List Nat) (F : Nat → Pl) (b : Pl) (e : Ending) (w' : World) : Prop :=
  ∃ Q', (∀ j, j < 3 → Popped (2 ^ cntB m k - 1) at_ (Q j) (Q' j)) ∧ e = .returned (.agg (plC (picks m k at_ F b Q' 3))) ∧ WinE w' g h m k n r Q' ∧ Mod g h w w'

theorem cnt_le (m : Int) (k : Nat) (hk : k ≤ 2) : cntB m k ≤ 16 := by unfold cntB; split <;> (try split) <;> (try split) <;> omega

theorem QOk.tail {h n r : Nat} {ends : List Value} {j off len cap c : Nat} {L : List Nat} (q : QOk h n r ends j (.slice (some ⟨h, off, none⟩) len cap) (L.drop c)) (hl : c < L.length) (o2 : Nat) (ho : o2 = if cap = 1 then off else off + 1) :
    QOk h n r ends j (.slice (some ⟨h, o2, none⟩) (len - 1) (cap - 1)) (L.drop (c + 1)) := by
  obtain ⟨off', cap', h1, h2, h3, h4, h5, h6⟩ := q
  simp only [Value.slice.injEq, Option.some.injEq, Addr.mk.injEq, true_and, and_true] at h1
  obtain ⟨rfl, rfl, rfl⟩ := h1
  have hll : (L.drop c).length = L.length - c := by simp
  refine ⟨o2, cap - 1, by simp; omega, ?_, ?_, ?_, by omega, ?_⟩
  · subst ho; split <;> omega
  · subst ho; split <;> omega
  · simp; omega
  · intro i e hi
    have hil := (List.getElem?_eq_some_iff.1 hi).1
    simp at hil
    have hc1 : cap ≠ 1 := by omega
    rw [ho, if_neg hc1]
    have := h6 (i + 1) e (by rw [List.getElem?_drop] at hi ⊢; rw [← hi]; congr 1; omega)
    rw [← this]
    congr 1
    omega

/-- A struct is stored whole into a block. -/
theorem wpList_storeM {P : Program} {ops : Array Oper} {rest : List Oper} {o : Oper} {a : Act} {K : Exit → Act → World → Prop} {w : World} (hg : o.guard = none) (t : TypeId) (x y : Operand) (ho : o.op = .store t x y) (g : Nat) (cells : Array Value) (hx : a.eval x = .pointer (some ⟨g, 0, none⟩)) (hy : a.eval y = .agg cells)
    (tt : TypeId) (old : Array Value) (hgl : w.heap[g]? = some (.cells old tt (0, 0))) (hi : (P.info? t).map (·.size) = some cells.size) (hold : old.size = cells.size) (h1 : cells.all (·.oneCell') = true)
    (hK : ∀ w', Hid (w'.heap[g]? = some (.cells cells tt (0, 0))) → Hid (Mod g g w w') → wpList P ops K rest (a.put o.dst undef) w') : wpList P ops K (o :: rest) a w :=
  wpList_store_row hg t x y ho g cells hx hy tt old hgl hi hold h1 (hK _ (setRow_heap w g old cells tt (0, 0) hgl) ⟨rfl, rfl, rfl, by rw [setRow_size]; exact Nat.le_refl _, fun i _ hi _ => setRow_other w g i cells hi⟩)
theorem PlanAt.row {w : World} {gp e : Nat} {p : Pl} (x : PlanAt w gp e p) : Row w (some ⟨gp, e * 4, none⟩) (plC p).toList := by
  intro i v hi
  refine ⟨_, rfl, ?_⟩
  rw [add_off]
  match i, hi with
  | 0, hi => simp [plC] at hi; subst hi; exact x.c0
  | 1, hi => simp [plC] at hi; subst hi; exact x.c1
  | 2, hi => simp [plC] at hi; subst hi; exact x.c2
  | 3, hi => simp [plC] at hi; subst hi; exact x.c3
  | n + 4, hi => simp [plC] at hi
theorem plC_one (p : Pl) : (plC p).all (·.oneCell') = true := by simp [plC, Value.oneCell']

def ChInv (w : World) (g h : Nat) (m : Int) (k n r at_ lim : Nat) (Q : Nat → List Nat) (F : Nat → Pl) (b : Pl) (j : Nat) (wr : World) (Qs : Nat → List Nat) : Prop :=
  WinE wr g h m k n r Qs ∧ (∀ i, i < j → Popped lim at_ (Q i) (Qs i)) ∧ (∀ i, j ≤ i → Qs i = Q i) ∧ Mod g h w wr ∧
    wr.heap[w.heap.size]? = some (.cells (plC (picks m k at_ F b Qs j)) 95 (0, 0)) ∧ wr.heap[w.heap.size + 1]? = some (.cells (plC zeroP) 95 (0, 0))

theorem ChInv.next {w wo w2 w9 : World} {g h : Nat} {m : Int} {k n r at_ lim : Nat} {Q Qs : Nat → List Nat} {F : Nat → Pl} {b : Pl} {j : Nat} {qv : Nat → Value} {ends : List Value} (H : ChInv w g h m k n r at_ lim Q F b j wo Qs) (x : Win wo g h m k n r qv ends Qs) (hlt : g < w.heap.size ∧ h < w.heap.size) (hj : j < 3) (he : Ext wo w2)
    (v : Value) (L' : List Nat) (hq : QOk h n r ends j v L') (hpop : Popped lim at_ (Q j) L') (hm : Mod w.heap.size w.heap.size (w2.setCell ⟨g, 9 + j, none⟩ v) w9)
    (hb : w9.heap[w.heap.size]? = some (.cells (plC (pickB m k at_ F (picks m k at_ F b Qs j) L')) 95 (0, 0))) : ChInv w g h m k n r at_ lim Q F b (j + 1) w9 (upd Qs j L') := by
  obtain ⟨_, h1, h2, h3, h4, h5⟩ := H
  have hsz : (w2.setCell ⟨g, 9 + j, none⟩ v).heap.size = w2.heap.size := by simp [World.setCell]
  have s4 : w.heap.size < wo.heap.size := (Array.getElem?_eq_some_iff.1 h4).1
  have s5 : w.heap.size + 1 < wo.heap.size := (Array.getElem?_eq_some_iff.1 h5).1
  have s6 := he.size
  have hwin := x.put (he.block g (by omega)) ((he.block h (by omega)).trans x.row) rfl j hj v L' (fun i hi _ => x.q i hi) hq
  have m3 : Mod g h w (w2.setCell ⟨g, 9 + j, none⟩ v) := (h3.trans (Mod.ofExt he)).set g (Or.inl rfl) _ _
  refine ⟨⟨_, _, hwin.kept (hm.block g (by omega) (by omega) (by omega)) (hm.block h (by omega) (by omega) (by omega))⟩, fun i hi => ?_, fun i hi => ?_, ?_, ?_, ?_⟩
  · unfold upd
    by_cases e : i = j
    · subst e; simpa using hpop
    · simpa [e] using h1 i (by omega)
  · unfold upd
    rw [if_neg (by omega)]
    exact h2 i (by omega)
  · exact ⟨hm.os.trans m3.os, hm.tape.trans m3.tape, hm.output.trans m3.output, Nat.le_trans m3.size hm.size, fun i hi e1 e2 => (hm.block i (by have := m3.size; omega) (by omega) (by omega)).trans (m3.block i hi e1 e2)⟩
  · rw [hb, picks_succ, picks_upd]
    simp [upd]
  · rw [hm.block (w.heap.size + 1) (by omega) (by omega) (by omega), heap_setCell_other _ g _ _ _ (by omega), he.block (w.heap.size + 1) s5]
    exact h5

theorem newCells {w w6 : World} (h : Ext (w.alloc (.cells #[.int .i64 0, .int .i64 0, .int .i64 0, .int .i64 0] 95)).drew w6) :
    w6.cell? ⟨w.heap.size, 0, none⟩ = some (.int .i64 0) ∧ w6.cell? ⟨w.heap.size, 1, none⟩ = some (.int .i64 0) ∧ w6.cell? ⟨w.heap.size, 2, none⟩ = some (.int .i64 0) ∧ w6.cell? ⟨w.heap.size, 3, none⟩ = some (.int .i64 0) ∧
      w6.frozen? ⟨w.heap.size, 0, none⟩ = false ∧ w6.frozen? ⟨w.heap.size, 1, none⟩ = false ∧ w6.frozen? ⟨w.heap.size, 2, none⟩ = false ∧ w6.frozen? ⟨w.heap.size, 3, none⟩ = false := by
  have hn : w6.heap[w.heap.size]? = some (.cells #[.int .i64 0, .int .i64 0, .int .i64 0, .int .i64 0] 95 (0, 0)) := Ext.new ((Ext.drew _).trans h)
  refine ⟨?_, ?_, ?_, ?_, ?_, ?_, ?_, ?_⟩
  · rw [cell_of_row _ _ _ _ _ _ hn]; rfl
  · rw [cell_of_row _ _ _ _ _ _ hn]; rfl
  · rw [cell_of_row _ _ _ _ _ _ hn]; rfl
  · rw [cell_of_row _ _ _ _ _ _ hn]; rfl
  all_goals simp [World.frozen?, hn]

theorem Win.pack {w : World} {g h : Nat} {m : Int} {k n r : Nat} {qv : Nat → Value} {ends : List Value} {Q : Nat → List Nat} (x : Win w g h m k n r qv ends Q) : Row w (some ⟨g, 1, none⟩) (packA m).toList := by
  have := Row.block x.blk 1 6
  rw [packA_eq]
  simpa [winC] using this

theorem heap4 {w w6 : World} (h : Ext (w.alloc (.cells #[.int .i64 0, .int .i64 0, .int .i64 0, .int .i64 0] 95)).drew w6) (a b c d : Value) :
    w.heap.size < ((((w6.setCell ⟨w.heap.size, 0, none⟩ a).setCell ⟨w.heap.size, 1, none⟩ b).setCell ⟨w.heap.size, 2, none⟩ c).setCell ⟨w.heap.size, 3, none⟩ d).heap.size ∧
    ((((w6.setCell ⟨w.heap.size, 0, none⟩ a).setCell ⟨w.heap.size, 1, none⟩ b).setCell ⟨w.heap.size, 2, none⟩ c).setCell ⟨w.heap.size, 3, none⟩ d).heap[w.heap.size]? = some (.cells #[a, b, c, d] 95 (0, 0)) ∧
    Ext w ((((w6.setCell ⟨w.heap.size, 0, none⟩ a).setCell ⟨w.heap.size, 1, none⟩ b).setCell ⟨w.heap.size, 2, none⟩ c).setCell ⟨w.heap.size, 3, none⟩ d) := by
  have hn : w6.heap[w.heap.size]? = some (.cells #[.int .i64 0, .int .i64 0, .int .i64 0, .int .i64 0] 95 (0, 0)) := Ext.new ((Ext.drew _).trans h)
  have h4 := heap_setCell_same _ _ 3 d _ _ _ (heap_setCell_same _ _ 2 c _ _ _ (heap_setCell_same _ _ 1 b _ _ _ (heap_setCell_same _ _ 0 a _ _ _ hn)))
  refine ⟨(Array.getElem?_eq_some_iff.1 h4).1, h4, ?_⟩
  exact ((((((Ext.alloc _ _).trans (Ext.drew _)).trans h).set (Nat.le_refl _) _ _).set (Nat.le_refl _) _ _).set (Nat.le_refl _) _ _).set (Nat.le_refl _) _ _

set_option maxRecDepth 20000 in
set_option maxHeartbeats 3200000 in
theorem choose_any (g h gp lo : Nat) (m : Int) (k n r at_ : Nat) (Q : Nat → List Nat) (F : Nat → Pl) (b : Pl) (w : World) (hm : okMode m = true) (hk : k ≤ 2) (hn : n ≤ 4096) (hw : WinE w g h m k n r Q) (hp : Plans w gp (n + 1) lo F) (hgp : gp ≠ g ∧ gp ≠ h)
    (hQ : ∀ j, j < 3 → ∀ e ∈ Q j, lo ≤ e ∧ e < n + 1 ∧ at_ < e) :
    Calls Try.prog 63 #[.pointer (some ⟨g, 0, none⟩), .slice (some ⟨gp, 0, none⟩) (n + 1) (n + 1), .int .i64 at_, .agg (plC b)] w (ChoosePost w g h m k n r at_ Q F b) := by
  have HW := Lib.hid hw
  have HP := Lib.hid hp
  have HQ := Lib.hid hQ
  have HM := Lib.hid hm
  have HGP := Lib.hid hgp
  clear hw hp hQ hm hgp
  obtain ⟨lim, hlim⟩ : ∃ lim, lim = 2 ^ cntB m k - 1 := ⟨_, rfl⟩
  have hlb : lim ≤ 65535 := by
    rw [hlim]
    have := Nat.pow_le_pow_right (n := 2) (by decide) (cnt_le m k hk)
    omega
  have HLIM := Lib.hid hlim
  clear hlim
  have hlt : g < w.heap.size ∧ h < w.heap.size := by
    obtain ⟨qv, ends, HX⟩ := HW.out
    exact ⟨(Array.getElem?_eq_some_iff.1 HX.blk).1, (Array.getElem?_eq_some_iff.1 HX.row).1⟩
  have HPL : Hid (plC b = #[.int .i64 b.bits, .int .i64 b.seg, .int .i64 b.len, .int .i64 b.mode]) := rfl
  rw [HPL.out]
  go_enter Try.func63, Try.ntmps63
  go_wp2_with fail
  go_loopw [9, 10, 11, 12, 13, 14] (fun _ _ _ _ _ i wr => ∃ j : Nat, j ≤ 3 ∧ i = .int .i64 j ∧ ∃ Qs, Hid (ChInv w g h m k n r at_ lim Q F b j wr Qs)) (fun _ _ _ _ _ i _ => 3 - (intOf i).toNat)
  case atStart =>
    refine ⟨0, by omega, rfl, Q, Lib.hid ⟨?_, fun i hi => absurd hi (by omega), fun _ _ => rfl, ?_, ?_, ?_⟩⟩
    · obtain ⟨qv, ends, HX⟩ := HW.out
      exact ⟨qv, ends, HX.ext ((Ext.alloc _ _).trans (Ext.alloc _ _))⟩
    · exact Mod.ofExt ((Ext.alloc _ _).trans (Ext.alloc _ _))
    · exact Ext.new (Ext.alloc _ _)
    · have := heap_alloc_new (w.alloc (.cells #[.int .i64 b.bits, .int .i64 b.seg, .int .i64 b.len, .int .i64 b.mode] 95)) (.cells #[.int .i64 0, .int .i64 0, .int .i64 0, .int .i64 0] 95)
      simpa [plC, zeroP] using this
  case round =>
    obtain ⟨j, hj, rfl, Qs, HI⟩ := hrel
    by_cases hlt3 : j < 3
    · obtain ⟨wo, rfl⟩ : ∃ wo, wo = wr := ⟨_, rfl⟩
      obtain ⟨⟨qv, ends, HX⟩, hpop, hsame, hmod, hb1, hb2⟩ := HI.out
      obtain ⟨off, cap, hv, h1, h2, h3, h4, h5⟩ := HX.q j hlt3
      have z := HX.cellQ j hlt3
      rw [hv] at z
      obtain ⟨L, hL⟩ : ∃ L, L = Qs j := ⟨_, rfl⟩
      obtain ⟨ln, hln⟩ : ∃ ln, ln = L.length := ⟨_, rfl⟩
      have HQ0 : Hid (QOk h n r ends j (.slice (some ⟨h, off, none⟩) ln cap) (L.drop 0)) := by
        have := HX.q j hlt3
        rw [hv, ← hL, ← hln] at this
        exact this
      rw [← hL, ← hln] at z h3
      have HL := Lib.hid hL
      have HLN := Lib.hid hln
      have HXX := Lib.hid HX
      have HMOD := Lib.hid hmod
      clear HX hpop hsame hmod hb1 hb2 hv h5 hL hln h1 h2
      have hji : (j : Int) < 3 := by omega
      go_wp2_with fail
      go_loopw [10] (fun q w2 => ∃ c off' len' cap' : Nat, len' + c = ln ∧ len' + r ≤ cap' ∧ cap' ≤ 4096 ∧ q = .slice (some ⟨h, off', none⟩) len' cap' ∧ Hid (QOk h n r ends j (.slice (some ⟨h, off', none⟩) len' cap') (L.drop c)) ∧ Hid (∀ x e, L[x]? = some e → x < c → lim < e - at_) ∧ Hid (Ext wo w2)) (fun q _ => slLen q)
      case atStart => exact ⟨0, off, ln, cap, by omega, by omega, by omega, rfl, HQ0, Lib.hid (fun x e _ hx => absurd hx (by omega)), Lib.hid (Ext.refl _)⟩
      case round =>
        obtain ⟨c, off', len', cap', hlc, hlr, hc4, rfl, HQK, HFAR, HE⟩ := hrel
        rcases Nat.eq_zero_or_pos len' with hz0 | hz0
        · have hz : len' ≤ 0 := by omega
          have hz2 : decide (0 < len') = false := by simp; omega
          have zf := (HXX.out.ext HE.out).froz (9 + j)
          have zc := (HXX.out.ext HE.out).cellQ j hlt3
          have HZ := Lib.hid hz0
          clear hz0
          go_wp2_with fail
          go_quiet (fail)
          go_wp2_with fail
          refine ⟨⟨j + 1, by omega, by rw [Int.natCast_succ], upd Qs j (L.drop c), Lib.hid ?_⟩, by simp [intOf]; omega⟩
          have hnil : L.drop c = [] := List.drop_of_length_le (by have := HLN.out; have := HZ.out; omega)
          refine HI.out.next HXX.out hlt hlt3 (HE.out.drewN nq) _ _ HQK.out ?_ (Mod.refl _ _ _) ?_
          · rw [← HI.out.2.2.1 j (Nat.le_refl _), ← HL.out]
            exact ⟨c, rfl, HFAR.out, fun e he => by have := (List.getElem?_eq_some_iff.1 he).1; have := HLN.out; have := HZ.out; omega⟩
          · rw [hnil, heap_setCell_other _ g _ _ _ (by omega), (HE.out.drewN nq).block _ (Array.getElem?_eq_some_iff.1 HI.out.2.2.2.2.1).1]
            exact HI.out.2.2.2.2.1
        · obtain ⟨e0, he0⟩ : ∃ e0, L[c]? = some e0 := ⟨_, List.getElem?_eq_getElem (by have := HLN.out; omega)⟩
          have hq0 := HQ.out j hlt3 e0 (by have := HI.out.2.2.1 j (Nat.le_refl _); rw [← this, ← HL.out]; exact List.mem_of_getElem? he0)
          have HEND : Hid (ends[off']? = some (.int .i64 e0)) := by
            obtain ⟨o2, c2, e1, _, _, _, _, e6⟩ := HQK.out
            simp only [Value.slice.injEq, Option.some.injEq, Addr.mk.injEq, true_and, and_true] at e1
            obtain ⟨rfl, _, rfl⟩ := e1
            exact e6 0 e0 (by rw [List.getElem?_drop]; exact he0)
          have zi := (HXX.out.ext HE.out).cellH off' _ HEND.out
          have z8 := (winC_1 wr g m k qv (HXX.out.ext HE.out).blk).2.2.2.2
          rw [← HLIM.out] at z8
          have HE0 := Lib.hid he0
          clear he0
          by_cases hfar : lim < e0 - at_
          · have hd : decide ((lim : Int) < (e0 : Int) - (at_ : Int)) = true := by simp; omega
            have HFR := Lib.hid hfar
            clear hfar
            go_wp2_with fail
            go_quiet (fail)
            go_wp2_with fail
            obtain ⟨o2, ho2⟩ : ∃ o2, o2 = if cap' = 1 then off' else off' + 1 := ⟨_, rfl⟩
            have hos : (if cap' = 1 then some (⟨h, off', none⟩ : Addr) else some ⟨h, off' + 1, none⟩) = some ⟨h, o2, none⟩ := by rw [ho2]; split <;> rfl
            rw [hos]
            refine ⟨⟨c + 1, o2, len' - 1, cap' - 1, by omega, by omega, by omega, rfl, Lib.hid (HQK.out.tail (by have := HLN.out; omega) o2 ho2), Lib.hid (fun x e hx hxc => ?_), Lib.hid (HE.out.drewN _)⟩, by simp [slLen]; omega⟩
            by_cases ex : x = c
            · subst ex
              rw [HE0.out] at hx
              cases hx
              exact HFR.out
            · exact HFAR.out x e hx (by omega)
          · have hd : decide ((lim : Int) < (e0 : Int) - (at_ : Int)) = false := by simp; omega
            have HFR := Lib.hid hfar
            clear hfar
            have zf := (HXX.out.ext HE.out).froz (9 + j)
            have zc := (HXX.out.ext HE.out).cellQ j hlt3
            go_wp2_with fail
            go_quiet (fail)
            go_upto_region 9 with fail
            generalize hw3 : World.setCell (wr.drewN nq) _ _ = w3
            clear zf zc zi z8
            have X3 := (HXX.out.ext (HE.out.drewN nq)).put (w2 := wr.drewN nq) rfl (HXX.out.ext (HE.out.drewN nq)).row rfl j hlt3 (.slice (some ⟨h, off', none⟩) len' cap') (L.drop c) (fun i hi _ => HXX.out.q i hi) HQK.out
            have M3 := (HMOD.out.trans (Mod.ofExt (HE.out.drewN nq))).set g (Or.inl rfl) (9 + j) (.slice (some ⟨h, off', none⟩) len' cap')
            rw [hw3] at X3 M3
            have HW3 := Lib.hid hw3
            clear hw3
            have PA3 := (HP.out.at_ e0 hq0.1 hq0.2.1).kept (M3.block gp (HP.out.at_ e0 hq0.1 hq0.2.1).lt HGP.out.1 HGP.out.2)
            have zi := X3.cellH off' _ HEND.out
            have PR := Lib.hid PA3.row
            have HX3 := Lib.hid X3
            have HM3 := Lib.hid M3
            clear PA3 X3 M3
            go_upto_region 10 with (first
              | ((with_reducible show wpList _ _ _ (⟨some 54, _, _, _, _, _⟩ :: _) _ _); refine wpList_loadAgg rfl 95 _ rfl _ Try.underlying95 rfl _ rfl _ PR.out (by kernel_rfl) ?_)
              | ((with_reducible show wpList _ _ _ (⟨none, .store 95 _ _, _, _, _, _⟩ :: _) _ _); refine wpList_storeNew rfl 95 _ _ rfl w3 _ _ rfl rfl rfl (by kernel_rfl) (by kernel_rfl) (plC_one (F e0)) ?_))
            generalize hw4 : World.alloc w3 _ = w4
            have E34 : Ext w3 w4 := by rw [← hw4]; exact Ext.alloc _ _
            have hx4 : w4.heap[w3.heap.size]? = some (.cells (plC (F e0)) 95 (0, 0)) := by rw [← hw4]; exact heap_alloc_new _ _
            clear hw4
            obtain ⟨gx, hgx⟩ : ∃ gx, gx = w3.heap.size := ⟨_, rfl⟩
            rw [← hgx] at hx4 ⊢
            have x0 : w4.cell? ⟨gx, 0, none⟩ = some (.int .i64 (F e0).bits) := by rw [cell_of_row w4 gx 0 _ _ _ hx4]; rfl
            have x1 : w4.cell? ⟨gx, 1, none⟩ = some (.int .i64 (F e0).seg) := by rw [cell_of_row w4 gx 1 _ _ _ hx4]; rfl
            have zi4 := E34.cell zi
            clear zi hgx hx4
            obtain ⟨sz, hsz⟩ : ∃ sz, sz = e0 - at_ := ⟨_, rfl⟩
            have hszi : (e0 : Int) - (at_ : Int) = (sz : Int) := by omega
            have hszb : sz ≤ 4096 := by omega
            have HSZ := Lib.hid hsz
            clear hsz hd
            have HX4 := Lib.hid (HX3.out.ext E34)
            obtain ⟨y0, _, _, y7, _⟩ := winC_1 w4 g m k _ HX4.out.blk
            have y1 := HX4.out.pack
            have hcn := cnt_le m k hk
            obtain ⟨hdr, hhdr⟩ : ∃ hdr, hdr = 4 + cntB m k := ⟨_, rfl⟩
            rw [← hhdr] at y7
            have hhb : hdr ≤ 20 := by omega
            have HHDR := Lib.hid hhdr
            clear hhdr hcn
            have fb := HP.out.bd e0
            have fs := HP.out.bs e0
            obtain ⟨fe, hfe⟩ : ∃ fe, fe = F e0 := ⟨_, rfl⟩
            rw [← hfe] at x0 x1 fb fs
            have HFE := Lib.hid hfe
            clear hfe
            have hdb : dsize m sz ≤ 8 * 4096 + 8 * 4096 := by
              unfold dsize
              split
              · split <;> (try split) <;> omega
              · split <;> omega
            obtain ⟨D, hD⟩ : ∃ D, D = dsize m sz := ⟨_, rfl⟩
            rw [← hD] at hdb
            have HD := Lib.hid hD
            clear hD
            have s1 : IntKind.i64.wrap ((hdr : Int) + (D : Int)) = (hdr : Int) + (D : Int) := IntWalk.i64_in _ (by omega)
            have s2 : IntKind.i64.wrap ((hdr : Int) + (D : Int) + (fe.bits : Int)) = (hdr : Int) + (D : Int) + (fe.bits : Int) := IntWalk.i64_in _ (by omega)
            have s3 : IntKind.i64.wrap ((fe.seg : Int) + 1) = (fe.seg : Int) + 1 := IntWalk.i64_in _ (by omega)
            have Y1 := Lib.hid y1
            clear y1
            go_upto_region 11 with fail
            obtain ⟨p1, p2, p3, p4, p5, p6⟩ : w4.cell? ⟨g, 1, none⟩ = some (.int .i64 (unitN m)) ∧ w4.cell? ⟨g, 2, none⟩ = some (.int .i64 (baseI m)) ∧ w4.cell? ⟨g, 3, none⟩ = some (.int .i64 (fullI m)) ∧ w4.cell? ⟨g, 4, none⟩ = some (.int .i64 0) ∧ w4.cell? ⟨g, 5, none⟩ = some (.int .i64 (part1 m)) ∧ w4.cell? ⟨g, 6, none⟩ = some (.int .i64 (part2 m)) := by
              refine ⟨?_, ?_, ?_, ?_, ?_, ?_⟩ <;> (rw [cell_of_row w4 g _ _ _ _ HX4.out.blk]; simp [winC])
            have HPS := fun (W : World) => Lib.hid (psize_any m sz W HM.out (by omega))
            rw [packA_eq] at HPS
            simp only [← HD.out] at HPS
            have HK : Hid (∀ W, Ext w4 W → (Ext w4 W ∧ W.cell? ⟨gx, 0, none⟩ = some (.int .i64 fe.bits) ∧ W.cell? ⟨gx, 1, none⟩ = some (.int .i64 fe.seg) ∧ W.cell? ⟨g, 0, none⟩ = some (.int .i64 m) ∧ W.cell? ⟨g, 7, none⟩ = some (.int .i64 hdr) ∧ W.cell? ⟨g, 1, none⟩ = some (.int .i64 (unitN m)) ∧ W.cell? ⟨g, 2, none⟩ = some (.int .i64 (baseI m)) ∧ W.cell? ⟨g, 3, none⟩ = some (.int .i64 (fullI m)) ∧ W.cell? ⟨g, 4, none⟩ = some (.int .i64 0) ∧ W.cell? ⟨g, 5, none⟩ = some (.int .i64 (part1 m)) ∧ W.cell? ⟨g, 6, none⟩ = some (.int .i64 (part2 m)))) :=
              fun W hW => ⟨hW, hW.cell x0, hW.cell x1, hW.cell y0, hW.cell y7, hW.cell p1, hW.cell p2, hW.cell p3, hW.cell p4, hW.cell p5, hW.cell p6⟩
            go_region_held3 (fun W => Ext w4 W ∧ W.cell? ⟨gx, 0, none⟩ = some (.int .i64 fe.bits) ∧ W.cell? ⟨gx, 1, none⟩ = some (.int .i64 fe.seg) ∧ W.cell? ⟨g, 0, none⟩ = some (.int .i64 m) ∧ W.cell? ⟨g, 7, none⟩ = some (.int .i64 hdr) ∧ W.cell? ⟨g, 1, none⟩ = some (.int .i64 (unitN m)) ∧ W.cell? ⟨g, 2, none⟩ = some (.int .i64 (baseI m)) ∧ W.cell? ⟨g, 3, none⟩ = some (.int .i64 (fullI m)) ∧ W.cell? ⟨g, 4, none⟩ = some (.int .i64 0) ∧ W.cell? ⟨g, 5, none⟩ = some (.int .i64 (part1 m)) ∧ W.cell? ⟨g, 6, none⟩ = some (.int .i64 (part2 m)))
              ((refine HK.out _ ?_; first
                | exact Ext.drew _
                | exact (Ext.drew _).trans (Ext.alloc _ _)
                | exact ((Ext.drew _).trans (Ext.alloc _ _)).trans (by assumption)
                | exact (Ext.drew _).trans (by assumption)
                | (refine Ext.trans ?_ (Ext.alloc _ _); exact (Ext.drew _).trans (by assumption))
                | exact ((((((Ext.drew _).trans (Ext.alloc _ _)).trans (by assumption)).set (Nat.le_refl _) _ _).set (Nat.le_refl _) _ _).set (Nat.le_refl _) _ _).set (Nat.le_refl _) _ _
                | (have hxx := Ext.size (by assumption : Ext w4.drew _); exact ((((((Ext.drew _).trans (by assumption)).trans (Ext.alloc _ _)).set hxx _ _).set hxx _ _).set hxx _ _).set hxx _ _)))
              (first
              | (go_at_call 49; (with_reducible refine (HPS (w4.alloc (.cells #[.int .i64 0, .int .i64 0, .int .i64 0, .int .i64 0] 95)).drew).out.mono ?_); rintro e w6 ⟨rfl, hx6⟩; (obtain ⟨n0, n1, n2, n3, f0, f1, f2, f3⟩ := newCells hx6))
              | (go_at_call 49; (with_reducible refine (HPS _).out.mono ?_); rintro e w6 ⟨rfl, hx6⟩))
            · obtain ⟨gn, hgn⟩ : ∃ gn, gn = w6.heap.size := ⟨_, rfl⟩
              have HGN : Hid (gn < (w6.alloc (.cells #[.int .i64 ((hdr : Int) + (D : Int) + (fe.bits : Int)), .int .i64 ((fe.seg : Int) + 1), .int .i64 sz, .int .i64 m] 95)).heap.size ∧ (w6.alloc (.cells #[.int .i64 ((hdr : Int) + (D : Int) + (fe.bits : Int)), .int .i64 ((fe.seg : Int) + 1), .int .i64 sz, .int .i64 m] 95)).heap[gn]? = some (.cells #[.int .i64 ((hdr : Int) + (D : Int) + (fe.bits : Int)), .int .i64 ((fe.seg : Int) + 1), .int .i64 sz, .int .i64 m] 95 (0, 0)) ∧ Ext w4 (w6.alloc (.cells #[.int .i64 ((hdr : Int) + (D : Int) + (fe.bits : Int)), .int .i64 ((fe.seg : Int) + 1), .int .i64 sz, .int .i64 m] 95))) := by
                refine ⟨by rw [hgn]; simp, by rw [hgn]; exact heap_alloc_new _ _, ((Ext.drew _).trans hx6).trans (Ext.alloc _ _)⟩
              rw [← hgn]
              generalize World.alloc w6 _ = w8 at HGN ⊢
              clear hgn
              have HB : Hid (w8.heap[w.heap.size]? = some (.cells (plC (picks m k at_ F b Qs j)) 95 (0, 0))) := by
                have q1 := HI.out.2.2.2.2.1
                have q2 := (Array.getElem?_eq_some_iff.1 q1).1
                have q3 := (HE.out.drewN nq).size
                show _ = _
                have q4 : w3.heap[w.heap.size]? = wo.heap[w.heap.size]? := by
                  rw [← HW3.out, heap_setCell_other _ g _ _ _ (by omega)]
                  exact (HE.out.drewN nq).block _ q2
                have q5 : w.heap.size < w3.heap.size := by rw [← HW3.out]; simp [World.setCell]; simp at q3; omega
                rw [(E34.trans HGN.out.2.2).block _ q5, q4]
                exact q1
              have HCC : Hid (plC (candP m k sz fe) = #[.int .i64 ((hdr : Int) + (D : Int) + (fe.bits : Int)), .int .i64 ((fe.seg : Int) + 1), .int .i64 sz, .int .i64 m]) := by
                show _ = _
                have e1 : ((segB m k sz + fe.bits : Nat) : Int) = (hdr : Int) + (D : Int) + (fe.bits : Int) := by
                  unfold segB
                  rw [HHDR.out, HD.out]
                  omega
                simp only [plC, candP, e1]
                rfl
              have HRN : Hid (Row w8 (some ⟨gn, 0, none⟩) (plC (candP m k sz fe)).toList) := by
                have q := HGN.out.2.1
                rw [← HCC.out] at q
                have q2 := Row.block q 0 4
                refine Lib.hid ?_
                simpa [plC] using q2
              have HRB : Hid (Row w8 (some ⟨w.heap.size, 0, none⟩) (plC (picks m k at_ F b Qs j)).toList) := by
                have q2 := Row.block HB.out 0 4
                refine Lib.hid ?_
                simpa [plC] using q2
              go_wp2_with (first
                | ((with_reducible show wpList _ _ _ (⟨some 83, _, _, _, _, _⟩ :: _) _ _); refine wpList_loadAgg rfl 95 _ rfl _ Try.underlying95 rfl _ rfl _ HRN.out (by kernel_rfl) ?_)
                | ((with_reducible show wpList _ _ _ (⟨some 84, _, _, _, _, _⟩ :: _) _ _); refine wpList_loadAgg rfl 95 _ rfl _ Try.underlying95 rfl _ rfl _ HRB.out (by kernel_rfl) ?_))
              refine (better_any (candP m k sz fe) (picks m k at_ F b Qs j) w8).mono ?_
              rintro e w9 ⟨rfl, hx9⟩
              have HPOP : Hid (Popped lim at_ (Q j) (L.drop c)) := by
                refine Lib.hid ?_
                rw [← HI.out.2.2.1 j (Nat.le_refl _), ← HL.out]
                exact ⟨c, rfl, HFAR.out, fun e he => by rw [HE0.out] at he; cases he; have := HFR.out; omega⟩
              have HDC : Hid (L.drop c = e0 :: L.drop (c + 1)) := by
                refine Lib.hid ?_
                obtain ⟨q1, q2⟩ := List.getElem?_eq_some_iff.1 HE0.out
                rw [List.drop_eq_getElem_cons q1, q2]
              have HPK : Hid (pickB m k at_ F (picks m k at_ F b Qs j) (L.drop c) = if (candP m k sz fe).lt (picks m k at_ F b Qs j) then candP m k sz fe else picks m k at_ F b Qs j) := by
                refine Lib.hid ?_
                rw [HDC.out, HSZ.out, HFE.out]
                rfl
              by_cases hltc : (candP m k sz fe).lt (picks m k at_ F b Qs j)
              · rw [decide_eq_true hltc]
                have HPK2 : Hid (pickB m k at_ F (picks m k at_ F b Qs j) (L.drop c) = candP m k sz fe) := by refine Lib.hid ?_; rw [HPK.out, if_pos hltc]
                have HRN9 := Lib.hid (HRN.out.ext hx9)
                have HB9 := Lib.hid ((hx9.block _ (Array.getElem?_eq_some_iff.1 HB.out).1).trans HB.out)
                have HX9 := Lib.hid hx9
                clear hltc HPK hx9
                go_wp2_with (first
                  | ((with_reducible show wpList _ _ _ (⟨some 86, _, _, _, _, _⟩ :: _) _ _); refine wpList_loadAgg rfl 95 _ rfl _ Try.underlying95 rfl _ rfl _ HRN9.out (by kernel_rfl) ?_)
                  | ((with_reducible show wpList _ _ _ (⟨none, .store 95 _ _, _, _, _, _⟩ :: _) _ _); refine wpList_storeM rfl 95 _ _ rfl w.heap.size _ rfl rfl 95 _ HB9.out (by kernel_rfl) (by kernel_rfl) (plC_one _) ?_; intro w10 H10 HM10))
                refine ⟨⟨j + 1, by omega, by rw [Int.natCast_succ], upd Qs j (L.drop c), Lib.hid ?_⟩, by simp [intOf]; omega⟩
                refine HI.out.next HXX.out hlt hlt3 (HE.out.drewN nq) _ _ HQK.out HPOP.out (by rw [HW3.out]; exact (Mod.ofExt (E34.trans (HGN.out.2.2.trans HX9.out))).trans HM10.out) ?_
                rw [HPK2.out]
                exact H10.out
              · rw [decide_eq_false hltc]
                have HPK2 : Hid (pickB m k at_ F (picks m k at_ F b Qs j) (L.drop c) = picks m k at_ F b Qs j) := by refine Lib.hid ?_; rw [HPK.out, if_neg hltc]
                have HB9 := Lib.hid ((hx9.block _ (Array.getElem?_eq_some_iff.1 HB.out).1).trans HB.out)
                have HX9 := Lib.hid hx9
                clear hltc HPK hx9
                go_wp2_with fail
                refine ⟨⟨j + 1, by omega, by rw [Int.natCast_succ], upd Qs j (L.drop c), Lib.hid ?_⟩, by simp [intOf]; omega⟩
                refine HI.out.next HXX.out hlt hlt3 (HE.out.drewN nq) _ _ HQK.out HPOP.out (by rw [HW3.out]; exact Mod.ofExt (E34.trans (HGN.out.2.2.trans HX9.out))) ?_
                rw [HPK2.out]
                exact HB9.out
            · obtain ⟨gn, hgn⟩ : ∃ gn, gn = w4.heap.size := ⟨_, rfl⟩
              have HGN0 := heap4 hx6 (.int .i64 ((hdr : Int) + (D : Int) + (fe.bits : Int))) (.int .i64 ((fe.seg : Int) + 1)) (.int .i64 sz) (.int .i64 m)
              rw [← hgn] at HGN0 ⊢
              generalize World.setCell (World.setCell (World.setCell (World.setCell w6 _ _) _ _) _ _) _ _ = w8 at HGN0 ⊢
              have HGN := Lib.hid HGN0
              clear hgn HGN0
              have HB : Hid (w8.heap[w.heap.size]? = some (.cells (plC (picks m k at_ F b Qs j)) 95 (0, 0))) := by
                have q1 := HI.out.2.2.2.2.1
                have q2 := (Array.getElem?_eq_some_iff.1 q1).1
                have q3 := (HE.out.drewN nq).size
                show _ = _
                have q4 : w3.heap[w.heap.size]? = wo.heap[w.heap.size]? := by
                  rw [← HW3.out, heap_setCell_other _ g _ _ _ (by omega)]
                  exact (HE.out.drewN nq).block _ q2
                have q5 : w.heap.size < w3.heap.size := by rw [← HW3.out]; simp [World.setCell]; simp at q3; omega
                rw [(E34.trans HGN.out.2.2).block _ q5, q4]
                exact q1
              have HCC : Hid (plC (candP m k sz fe) = #[.int .i64 ((hdr : Int) + (D : Int) + (fe.bits : Int)), .int .i64 ((fe.seg : Int) + 1), .int .i64 sz, .int .i64 m]) := by
                show _ = _
                have e1 : ((segB m k sz + fe.bits : Nat) : Int) = (hdr : Int) + (D : Int) + (fe.bits : Int) := by
                  unfold segB
                  rw [HHDR.out, HD.out]
                  omega
                simp only [plC, candP, e1]
                rfl
              have HRN : Hid (Row w8 (some ⟨gn, 0, none⟩) (plC (candP m k sz fe)).toList) := by
                have q := HGN.out.2.1
                rw [← HCC.out] at q
                have q2 := Row.block q 0 4
                refine Lib.hid ?_
                simpa [plC] using q2
              have HRB : Hid (Row w8 (some ⟨w.heap.size, 0, none⟩) (plC (picks m k at_ F b Qs j)).toList) := by
                have q2 := Row.block HB.out 0 4
                refine Lib.hid ?_
                simpa [plC] using q2
              go_wp2_with (first
                | ((with_reducible show wpList _ _ _ (⟨some 83, _, _, _, _, _⟩ :: _) _ _); refine wpList_loadAgg rfl 95 _ rfl _ Try.underlying95 rfl _ rfl _ HRN.out (by kernel_rfl) ?_)
                | ((with_reducible show wpList _ _ _ (⟨some 84, _, _, _, _, _⟩ :: _) _ _); refine wpList_loadAgg rfl 95 _ rfl _ Try.underlying95 rfl _ rfl _ HRB.out (by kernel_rfl) ?_))
              refine (better_any (candP m k sz fe) (picks m k at_ F b Qs j) w8).mono ?_
              rintro e w9 ⟨rfl, hx9⟩
              have HPOP : Hid (Popped lim at_ (Q j) (L.drop c)) := by
                refine Lib.hid ?_
                rw [← HI.out.2.2.1 j (Nat.le_refl _), ← HL.out]
                exact ⟨c, rfl, HFAR.out, fun e he => by rw [HE0.out] at he; cases he; have := HFR.out; omega⟩
              have HDC : Hid (L.drop c = e0 :: L.drop (c + 1)) := by
                refine Lib.hid ?_
                obtain ⟨q1, q2⟩ := List.getElem?_eq_some_iff.1 HE0.out
                rw [List.drop_eq_getElem_cons q1, q2]
              have HPK : Hid (pickB m k at_ F (picks m k at_ F b Qs j) (L.drop c) = if (candP m k sz fe).lt (picks m k at_ F b Qs j) then candP m k sz fe else picks m k at_ F b Qs j) := by
                refine Lib.hid ?_
                rw [HDC.out, HSZ.out, HFE.out]
                rfl
              by_cases hltc : (candP m k sz fe).lt (picks m k at_ F b Qs j)
              · rw [decide_eq_true hltc]
                have HPK2 : Hid (pickB m k at_ F (picks m k at_ F b Qs j) (L.drop c) = candP m k sz fe) := by refine Lib.hid ?_; rw [HPK.out, if_pos hltc]
                have HRN9 := Lib.hid (HRN.out.ext hx9)
                have HB9 := Lib.hid ((hx9.block _ (Array.getElem?_eq_some_iff.1 HB.out).1).trans HB.out)
                have HX9 := Lib.hid hx9
                clear hltc HPK hx9
                go_wp2_with (first
                  | ((with_reducible show wpList _ _ _ (⟨some 86, _, _, _, _, _⟩ :: _) _ _); refine wpList_loadAgg rfl 95 _ rfl _ Try.underlying95 rfl _ rfl _ HRN9.out (by kernel_rfl) ?_)
                  | ((with_reducible show wpList _ _ _ (⟨none, .store 95 _ _, _, _, _, _⟩ :: _) _ _); refine wpList_storeM rfl 95 _ _ rfl w.heap.size _ rfl rfl 95 _ HB9.out (by kernel_rfl) (by kernel_rfl) (plC_one _) ?_; intro w10 H10 HM10))
                refine ⟨⟨j + 1, by omega, by rw [Int.natCast_succ], upd Qs j (L.drop c), Lib.hid ?_⟩, by simp [intOf]; omega⟩
                refine HI.out.next HXX.out hlt hlt3 (HE.out.drewN nq) _ _ HQK.out HPOP.out (by rw [HW3.out]; exact (Mod.ofExt (E34.trans (HGN.out.2.2.trans HX9.out))).trans HM10.out) ?_
                rw [HPK2.out]
                exact H10.out
              · rw [decide_eq_false hltc]
                have HPK2 : Hid (pickB m k at_ F (picks m k at_ F b Qs j) (L.drop c) = picks m k at_ F b Qs j) := by refine Lib.hid ?_; rw [HPK.out, if_neg hltc]
                have HB9 := Lib.hid ((hx9.block _ (Array.getElem?_eq_some_iff.1 HB.out).1).trans HB.out)
                have HX9 := Lib.hid hx9
                clear hltc HPK hx9
                go_wp2_with fail
                refine ⟨⟨j + 1, by omega, by rw [Int.natCast_succ], upd Qs j (L.drop c), Lib.hid ?_⟩, by simp [intOf]; omega⟩
                refine HI.out.next HXX.out hlt hlt3 (HE.out.drewN nq) _ _ HQK.out HPOP.out (by rw [HW3.out]; exact Mod.ofExt (E34.trans (HGN.out.2.2.trans HX9.out))) ?_
                rw [HPK2.out]
                exact HB9.out
    · obtain rfl : j = 3 := by omega
      obtain ⟨hwe, hpop, hsame, hmod, hb1, hb2⟩ := HI.out
      have hrow : Row wr (some ⟨w.heap.size, 0, none⟩) (plC (picks m k at_ F b Qs 3)).toList := by
        have := Row.block hb1 0 4
        simpa [plC] using this
      have HWE := Lib.hid hwe
      have HPOP := Lib.hid hpop
      have HMOD := Lib.hid hmod
      have HB2 := Lib.hid hb2
      have HROW := Lib.hid hrow
      clear hwe hpop hsame hmod hb1 hb2 hrow HI
      go_wp2_with (first
        | ((with_reducible show wpList _ _ _ (⟨some 88, _, _, _, _, _⟩ :: _) _ _); refine wpList_loadAgg rfl 95 _ rfl _ Try.underlying95 rfl _ rfl _ HROW.out (by kernel_rfl) ?_)
        | ((with_reducible show wpList _ _ _ (⟨none, .store 95 _ _, _, _, _, _⟩ :: _) _ _); refine wpList_storeM rfl 95 _ _ rfl (w.heap.size + 1) _ rfl rfl 95 _ HB2.out (by kernel_rfl) (by kernel_rfl) (plC_one _) ?_; intro w3 H3 HM3))
      refine bodyPost_ret (results_cell_row rfl _ w3 (w.heap.size + 1) 95 _ (0, 0) _ rfl H3.out Try.underlying95 rfl (by kernel_rfl)) rfl ?_
      have hM := HM3.out
      have hsz := (Array.getElem?_eq_some_iff.1 HB2.out).1
      obtain ⟨qv, ends, HX⟩ := HWE.out
      refine ⟨Qs, by rw [← HLIM.out]; exact HPOP.out, rfl, ⟨qv, ends, HX.kept (hM.block g (by omega) (by omega) (by omega)) (hM.block h (by omega) (by omega) (by omega))⟩, ?_⟩
      have m3 := HMOD.out
      exact ⟨hM.os.trans m3.os, hM.tape.trans m3.tape, hM.output.trans m3.output, Nat.le_trans m3.size hM.size, fun i hi e1 e2 => (hM.block i (by have := m3.size; omega) (by omega) (by omega)).trans (m3.block i hi e1 e2)⟩


def NewPost (w : World) (m : Int) (k n : Nat) (e : Ending) (w' : World) : Prop :=
  ∃ g h, e = .returned (.pointer (some ⟨g, 0, none⟩)) ∧ WinE w' g h m k n n (fun _ => []) ∧ Ext w w' ∧ w.heap.size ≤ g ∧ w.heap.size ≤ h

set_option maxRecDepth 20000 in
set_option maxHeartbeats 3200000 in
theorem newWindow_any (m : Int) (k n : Nat) (w : World) (hm : okMode m = true) (hk : k ≤ 2) (hn : n ≤ 4096) :
    Calls Try.prog 60 #[.int .i64 m, .int .i64 k, .int .i64 n] w (NewPost w m k n) := by
  have hcb := cnt_le m k hk
  have hcp := cnt_pos m k
  have HM := Lib.hid hm
  have HC : Hid (ctRes m k = (((cntB m k : Nat) : Int), 0)) := by
    refine Lib.hid ?_
    unfold ctRes
    rw [if_neg (by rw [hm]; simp; omega)]
    simp
  clear hm
  obtain ⟨B, hB⟩ : ∃ B, B = cntB m k := ⟨_, rfl⟩
  rw [← hB] at hcb hcp HC
  have HB := Lib.hid hB
  clear hB
  obtain ⟨p, hp⟩ : ∃ p, p = 2 ^ B := ⟨_, rfl⟩
  have hw2 : IntKind.i64.wrap ((2 : Int) ^ B) = (p : Int) := by
    rw [hp, IntWalk.i64_in _ (by have := pow_le61 B (by omega); have : (0 : Int) < 2 ^ B := Int.pow_pos (by decide); omega)]
    rw [Int.natCast_pow]
    rfl
  have hpb : 256 ≤ p ∧ p ≤ 65536 := by
    rw [hp]
    exact ⟨Nat.pow_le_pow_right (n := 2) (by decide) hcp, Nat.pow_le_pow_right (n := 2) (by decide) hcb⟩
  have HPP := Lib.hid hp
  clear hp
  have s1 : IntKind.i64.wrap (4 + (B : Int)) = ((4 + B : Nat) : Int) := by rw [IntWalk.i64_in _ (by omega)]; omega
  have s2 : IntKind.i64.wrap ((p : Int) - 1) = ((p - 1 : Nat) : Int) := by rw [IntWalk.i64_in _ (by omega)]; omega
  go_enter Try.func60, Try.ntmps60
  go_wp2_with fail
  refine (countBits_any _ _ _).mono ?_
  rw [HC.out]
  rintro e w' ⟨rfl, rfl⟩
  simp only [two]
  go_upto_region 2 with fail
  go_region_with (go_at_call 48; refine (packed_any m _ HM.out).mono ?_; rw [packA_eq]; rintro e w3 ⟨rfl, hx3⟩)
  go_upto_region 3 with fail
  obtain ⟨g, hg⟩ : ∃ g, g = w3.heap.size := ⟨_, rfl⟩
  rw [← hg]
  generalize hw4 : World.alloc w3 _ = w4
  have HG4 : Hid (w4.heap[g]? = some (.cells (winC m k (fun _ => .slice none 0 0)) 98 (0, 0))) := by
    refine Lib.hid ?_
    rw [hg, ← hw4, heap_alloc_new]
    unfold winC
    rw [← HB.out, ← HPP.out]
    simp
    done
  have hx4 : Ext w w4 := by rw [← hw4]; exact ((Ext.drew _).trans hx3).trans (Ext.alloc _ _)
  have hgb : w.heap.size ≤ g := by rw [hg]; exact ((Ext.drew _).trans hx3).size
  clear hw4 hg s1 s2 hw2 hx3 hpb
  go_wp2_with (at_make; refine wpList_make (ws := w) rfl _ _ 63 rfl w.heap.size 3 (.int .i64 0) 8 Try.infoInt rfl Try.underlying63 _ _ _ _ rfl rfl (3 * n) (3 * n) (by omega) (by omega) (Nat.le_refl _) (by omega) (by omega) hx4 hx4.size ?_; intro w5 hown5 hbel5 hg5)
  obtain ⟨h, hh⟩ : ∃ h, h = w4.heap.size := ⟨_, rfl⟩
  rw [← hh] at hown5 ⊢
  have HH5 : Hid (w5.heap[h]? = some (.cells (List.replicate (3 * n) (Value.int .i64 0)).toArray 3 (0, 0))) := by
    refine Lib.hid ?_
    rcases hown5.2 with ⟨hv, _⟩ | ⟨g', cap', cur, hv, hb', hg', hnc, hcm, hcs, htake⟩
    · cases hv
    · simp only [Value.slice.injEq, Option.some.injEq, Addr.mk.injEq, and_true, true_and] at hv
      obtain ⟨rfl, rfl⟩ := hv
      rw [hg', ← htake, List.take_of_length_le (by simp; omega)]
  have HG5 : Hid (w5.heap[g]? = some (.cells (winC m k (fun _ => .slice none 0 0)) 98 (0, 0))) := by
    refine Lib.hid ?_
    rw [hg5.block g (Array.getElem?_eq_some_iff.1 HG4.out).1 (by simp)]
    exact HG4.out
  have hne : g ≠ h := by rw [hh]; have := (Array.getElem?_eq_some_iff.1 HG4.out).1; omega
  have hhb : w.heap.size ≤ h := by rw [hh]; exact hx4.size
  have HBEL := Lib.hid hbel5
  clear hown5 hg5 hbel5 hh HG4 hx4
  go_loopw [11, 31] (fun _ i wr => ∃ j : Nat, j ≤ 3 ∧ i = .int .i64 j ∧ ∃ qv, Hid (wr.heap[g]? = some (.cells (winC m k qv) 98 (0, 0))) ∧ Hid (wr.heap[h]? = some (.cells (List.replicate (3 * n) (Value.int .i64 0)).toArray 3 (0, 0))) ∧ Hid (∀ i, i < j → QOk h n n (List.replicate (3 * n) (Value.int .i64 0)) i (qv i) []) ∧ Hid (Below w.heap.size w wr)) (fun _ i _ => 3 - (intOf i).toNat)
  case atStart => exact ⟨0, by omega, rfl, _, HG5, HH5, Lib.hid (fun i hi => absurd hi (by omega)), HBEL⟩
  case round =>
    clear HG5 HH5 HBEL
    obtain ⟨j, hj, rfl, qv, HG5, HH5, HQ, HBEL⟩ := hrel
    by_cases hlt : j < 3
    · have z : wr.cell? ⟨g, 9 + j, none⟩ = some (qv j) := by
        rw [cell_of_row wr g (9 + j) _ _ _ HG5.out]
        exact winC_at m k qv j hlt
      have zf : wr.frozen? ⟨g, 9 + j, none⟩ = false := by simp [World.frozen?, HG5.out]
      have hji : (j : Int) < 3 := by omega
      have hjn : j * n ≤ 2 * n := Nat.mul_le_mul_right n (by omega)
      obtain ⟨A, hA⟩ : ∃ A, A = j * n := ⟨_, rfl⟩
      have hA1 : (j : Int) * (n : Int) = (A : Int) := by rw [hA]; rfl
      have hA2 : ((j : Int) + 1) * (n : Int) = ((A + n : Nat) : Int) := by rw [Int.add_mul, hA1]; omega
      rw [← hA] at hjn
      have HA := Lib.hid hA
      clear hA
      go_wp2_with fail
      go_region
      go_wp2_with fail
      obtain ⟨o2, ho2⟩ : ∃ o2, o2 = if n = 0 then 0 else A := ⟨_, rfl⟩
      have hos : (if n = 0 then some (⟨h, 0, none⟩ : Addr) else some ⟨h, A, none⟩) = some ⟨h, o2, none⟩ := by rw [ho2]; split <;> rfl
      rw [hos]
      refine ⟨⟨j + 1, by omega, by rw [Int.natCast_succ], upd qv j (.slice (some ⟨h, o2, none⟩) 0 n), Lib.hid ?_, Lib.hid ?_, Lib.hid (fun i hi => ?_), Lib.hid ((HBEL.out.setCell hgb _).drew)⟩, by simp [intOf]; omega⟩
      · show (wr.setCell ⟨g, 9 + j, none⟩ (.slice (some ⟨h, o2, none⟩) 0 n)).heap[g]? = _
        rw [heap_setCell_same _ g (9 + j) _ _ _ _ HG5.out, winC_set m k qv j hlt]
      · show (wr.setCell ⟨g, 9 + j, none⟩ (.slice (some ⟨h, o2, none⟩) 0 n)).heap[h]? = _
        rw [heap_setCell_other _ g _ _ _ (fun e => hne e.symm)]
        exact HH5.out
      · unfold upd
        by_cases e : i = j
        · subst e
          rw [if_pos rfl]
          have e1 : (i + 1) * n = i * n + n := Nat.succ_mul i n
          have e2 := HA.out
          refine ⟨o2, n, rfl, ?_, ?_, by simp, Nat.le_refl _, fun x y hx => by simp at hx⟩
          · rw [ho2]
            split
            · rename_i h0
              rw [h0]
              simp
            · omega
          · rw [ho2]
            split
            · rename_i h0
              rw [h0]
              simp
            · omega
        · rw [if_neg e]
          exact HQ.out i (by omega)
    · obtain rfl : j = 3 := by omega
      go_wp2_with fail
      go_ret
      refine ⟨g, h, rfl, ⟨qv, _, ⟨hne, HG5.out, HH5.out, by simp, fun i hi => HQ.out i hi⟩⟩, HBEL.out, hgb, hhb⟩


def md (x : Nat) : Int := if x = 0 then 1 else if x = 1 then 2 else 4
theorem md_ok (x : Nat) : okMode (md x) = true := by unfold md; split <;> (try split) <;> rfl
def topP : Pl := ⟨9223372036854775807, 0, 0, 0⟩
/-- The plan of the rest from a place on. -/
def planAt (k : Nat) (p : List UInt8) (e : Nat) : Pl := plan k (p.drop e)

theorem unit_le (m : Int) : unitN m ≤ 3 := by unfold unitN; split <;> (try split) <;> omega

theorem isCand_iff (k : Nat) (p : List UInt8) (a : Nat) (d : Pl) : IsCand k (p.drop a) d ↔ ∃ x, x < 3 ∧ ∃ j, j < 3 ∧ CandJ (md x) (planAt k p) p k a j d := by
  constructor
  · rintro ⟨m, n, hm, h1, h2, h3, h4, rfl⟩
    have hx : ∃ x, x < 3 ∧ md x = m := by
      rcases okMode_three hm with rfl | rfl | rfl
      · exact ⟨0, by omega, rfl⟩
      · exact ⟨1, by omega, rfl⟩
      · exact ⟨2, by omega, rfl⟩
    obtain ⟨x, hx3, rfl⟩ := hx
    simp at h2
    refine ⟨x, hx3, (a + n) % unitN (md x), by have := Nat.mod_lt (a + n) (y := unitN (md x)) (unit_pos _); have := unit_le (md x); omega, a + n, ⟨by omega, by omega, fun i c e1 e2 e3 => ?_⟩, rfl, by rw [Nat.add_sub_cancel_left]; exact h3, ?_⟩
    · refine h4 c (List.mem_of_getElem? (i := i - a) ?_)
      rw [List.getElem?_take, if_pos (by omega), List.getElem?_drop, ← e3]
      congr 1
      omega
    · rw [Nat.add_sub_cancel_left, List.drop_drop]
      rfl
  · rintro ⟨x, _, j, _, e, ⟨h1, h2, h3⟩, _, h5, rfl⟩
    refine ⟨md x, e - a, md_ok x, by omega, by simp; omega, h5, fun c hc => ?_, ?_⟩
    · obtain ⟨i, hi, rfl⟩ := List.getElem_of_mem hc
      simp at hi
      refine h3 (a + i) _ (by omega) (by omega) ?_
      rw [List.getElem_take, List.getElem_drop, List.getElem?_eq_getElem]
    · unfold planAt
      rw [List.drop_drop]
      congr 3
      omega

theorem Popped.inv {m : Int} {F : Nat → Pl} {p : List UInt8} {lim a j : Nat} {Q Q' : List Nat} (h : QInv m F p lim a j Q) (hp : Popped lim a Q Q') : QInv m F p lim a j Q' := by
  obtain ⟨c, rfl, h1, _⟩ := hp
  exact h.pop c fun x hx hxc => h1 x _ (List.getElem?_eq_getElem hx) hxc
theorem Popped.front {lim a e : Nat} {Q R : List Nat} (hp : Popped lim a Q (e :: R)) : e - a ≤ lim := by
  obtain ⟨c, h0, _, h2⟩ := hp
  refine h2 e ?_
  have : (Q.drop c)[0]? = some e := by rw [← h0]; rfl
  rwa [List.getElem?_drop, Nat.add_zero] at this

theorem picks_least {m : Int} {F : Nat → Pl} {p : List UInt8} {k a : Nat} (hm : okMode m = true) (hk : k ≤ 2) (hb : ∀ e, (F e).bits ≤ 1048576) (hn : p.length ≤ 4096) {Q Q' : Nat → List Nat} (hq : ∀ j, j < 3 → QInv m F p (2 ^ cntB m k - 1) a j (Q j)) (hp : ∀ j, j < 3 → Popped (2 ^ cntB m k - 1) a (Q j) (Q' j))
    {S : Pl → Prop} {b : Pl} (hl : LeastOf S topP b) : ∀ i, i ≤ 3 → LeastOf (fun d => S d ∨ ∃ j, j < i ∧ CandJ m F p k a j d) topP (picks m k a F b Q' i) := by
  intro i
  induction i with
  | zero =>
    intro _
    refine hl.congr fun d => ⟨?_, Or.inl⟩
    rintro (h | ⟨j, hj, _⟩)
    · exact h
    · omega
  | succ i ih =>
    intro hi
    have ih := ih (by omega)
    rw [picks_succ]
    have hinv := Popped.inv (hq i (by omega)) (hp i (by omega))
    have hs : ∀ d, (S d ∨ ∃ j, j < i + 1 ∧ CandJ m F p k a j d) ↔ (S d ∨ ∃ j, j < i ∧ CandJ m F p k a j d) ∨ CandJ m F p k a i d := by
      intro d
      constructor
      · rintro (h | ⟨j, hj, h⟩)
        · exact Or.inl (Or.inl h)
        · by_cases e : j = i
          · subst e; exact Or.inr h
          · exact Or.inl (Or.inr ⟨j, by omega, h⟩)
      · rintro ((h | ⟨j, hj, h⟩) | h)
        · exact Or.inl h
        · exact Or.inr ⟨j, by omega, h⟩
        · exact Or.inr ⟨i, by omega, h⟩
    have hpi := hp i (by omega)
    generalize Q' i = R at hinv hpi
    cases R with
    | nil =>
      refine ih.congr fun d => ?_
      rw [hs d]
      exact ⟨fun h => h.elim id (fun h => absurd h (hinv.none d)), Or.inl⟩
    | cons e R =>
      obtain ⟨c1, c2⟩ := hinv.front hm hpi.front
      have he := (hinv.mem e (by simp)).1
      have htop : (candP m k (e - a) (F e)).lt topP := by
        have h1 := hb e
        have h2 := cnt_le m k hk
        have h3 : dsize m (e - a) ≤ 100000 := by
          have := he.2.1
          unfold dsize
          split
          · split <;> (try split) <;> omega
          · split <;> omega
        left
        simp only [candP, segB, topP]
        omega
      show LeastOf _ topP (if (candP m k (e - a) (F e)).lt (picks m k a F b Q' i) then _ else _)
      split
      · rename_i hlt
        exact ih.take hs c1 c2 (Or.inl hlt)
      · rename_i hlt
        refine ih.keep hs c2 ?_ hlt
        rcases ih with ⟨h1, _⟩ | ⟨h1, _⟩
        · rw [h1] at hlt
          exact absurd htop hlt
        · exact h1

/-- The table of plans: from a place on the plans, before it zeros. -/
structure Tab (w : World) (gp n a : Nat) (F : Nat → Pl) : Prop where
  blk : ∃ cs, w.heap[gp]? = some (.cells cs 95 (0, 0))
  at_ : ∀ e, e < n + 1 → PlanAt w gp e (if a ≤ e then F e else zeroP)
theorem Tab.kept {w w2 : World} {gp n a : Nat} {F : Nat → Pl} (x : Tab w gp n a F) (h : w2.heap[gp]? = w.heap[gp]?) : Tab w2 gp n a F := by
  obtain ⟨cs, hcs⟩ := x.blk
  exact ⟨⟨cs, h.trans hcs⟩, fun e he => (x.at_ e he).kept h⟩
theorem Tab.plans {w : World} {gp n a : Nat} {F : Nat → Pl} (x : Tab w gp n a F) (hb : ∀ e, (F e).bits ≤ 1048576 ∧ (F e).seg ≤ 4096) : Plans w gp (n + 1) a F :=
  ⟨fun e h1 h2 => by have := x.at_ e h2; rwa [if_pos h1] at this, fun e => (hb e).1, fun e => (hb e).2⟩
theorem Tab.lt {w : World} {gp n a : Nat} {F : Nat → Pl} (x : Tab w gp n a F) : gp < w.heap.size := by
  obtain ⟨cs, hcs⟩ := x.blk
  exact (Array.getElem?_eq_some_iff.1 hcs).1
/-- A plan is stored. -/
theorem Tab.store {w : World} {gp n a : Nat} {F : Nat → Pl} (x : Tab w gp n (a + 1) F) (ha : a < n + 1) :
    Tab ((((w.setCell ⟨gp, a * 4, none⟩ (.int .i64 (F a).bits)).setCell ⟨gp, a * 4 + 1, none⟩ (.int .i64 (F a).seg)).setCell ⟨gp, a * 4 + 2, none⟩ (.int .i64 (F a).len)).setCell ⟨gp, a * 4 + 3, none⟩ (.int .i64 (F a).mode)) gp n a F := by
  obtain ⟨cs, hcs⟩ := x.blk
  have h4 := heap_setCell_same _ _ (a * 4 + 3) (.int .i64 (F a).mode) _ _ _ (heap_setCell_same _ _ (a * 4 + 2) (.int .i64 (F a).len) _ _ _ (heap_setCell_same _ _ (a * 4 + 1) (.int .i64 (F a).seg) _ _ _ (heap_setCell_same _ _ (a * 4) (.int .i64 (F a).bits) _ _ _ hcs)))
  have hold : ∀ e i v, w.cell? ⟨gp, e * 4 + i, none⟩ = some v → cs[e * 4 + i]? = some v := by
    intro e i v hv
    rwa [cell_of_row w gp _ _ _ _ hcs] at hv
  refine ⟨⟨_, h4⟩, fun e he => ?_⟩
  have hx := x.at_ e he
  have hx4 := hold e 3 _ hx.c3
  have hsz := (Array.getElem?_eq_some_iff.1 hx4).1
  have hxa := x.at_ a ha
  have hsa := (Array.getElem?_eq_some_iff.1 (hold a 3 _ hxa.c3)).1
  by_cases hea : e = a
  · subst hea
    rw [if_pos (Nat.le_refl _)]
    refine ⟨?_, ?_, ?_, ?_⟩ <;> (rw [cell_of_row _ gp _ _ _ _ h4]; simp [Array.getElem?_setIfInBounds]; omega)
  · have hif : (if a ≤ e then F e else zeroP) = if a + 1 ≤ e then F e else zeroP := by
      by_cases h : a ≤ e
      · rw [if_pos h, if_pos (by omega)]
      · rw [if_neg h, if_neg (by omega)]
    rw [hif]
    refine ⟨?_, ?_, ?_, ?_⟩
    · rw [cell_of_row _ gp _ _ _ _ h4, Array.getElem?_setIfInBounds_ne (by omega), Array.getElem?_setIfInBounds_ne (by omega), Array.getElem?_setIfInBounds_ne (by omega), Array.getElem?_setIfInBounds_ne (by omega)]
      exact hold e 0 _ hx.c0
    · rw [cell_of_row _ gp _ _ _ _ h4, Array.getElem?_setIfInBounds_ne (by omega), Array.getElem?_setIfInBounds_ne (by omega), Array.getElem?_setIfInBounds_ne (by omega), Array.getElem?_setIfInBounds_ne (by omega)]
      exact hold e 1 _ hx.c1
    · rw [cell_of_row _ gp _ _ _ _ h4, Array.getElem?_setIfInBounds_ne (by omega), Array.getElem?_setIfInBounds_ne (by omega), Array.getElem?_setIfInBounds_ne (by omega), Array.getElem?_setIfInBounds_ne (by omega)]
      exact hold e 2 _ hx.c2
    · rw [cell_of_row _ gp _ _ _ _ h4, Array.getElem?_setIfInBounds_ne (by omega), Array.getElem?_setIfInBounds_ne (by omega), Array.getElem?_setIfInBounds_ne (by omega), Array.getElem?_setIfInBounds_ne (by omega)]
      exact hx4

theorem planAt_bd (k : Nat) (p : List UInt8) (hn : p.length ≤ 4096) (e : Nat) : (planAt k p e).bits ≤ 114688 ∧ (planAt k p e).seg ≤ 4096 := by
  have := plan_bd k (p.drop e).length (p.drop e) rfl
  unfold planAt
  simp at this
  omega


/-- A pointer is read out of an array's value. -/
theorem wpList_indexPtr {P : Program} {ops : Array Oper} {rest : List Oper} {o : Oper} {a : Act} {K : Exit → Act → World → Prop} {w : World} (hg : o.guard = none) (t : TypeId) (x i : Operand) (ho : o.op = .index t x i) (n : Nat) (e e' : TypeId) (hu : P.underlying t = some (.array n e)) (hue : P.underlying e = some (.pointer e')) (hse : (P.info? e).map (·.size) = some 1)
    (cs : Array Value) (hx : a.eval x = .agg cs) (ki : IntKind) (k : Nat) (hi : a.eval i = .int ki k) (hk : k < n) (v : Value) (hv : cs[k]? = some v)
    (h : wpList P ops K rest (a.put o.dst v) w) : wpList P ops K (o :: rest) a w := by
  refine wpList_plain hg fun K hK => ?_
  unfold Oper.wp execOp
  cases hq : P.info? e with
  | none => simp [hq] at hse
  | some ie =>
    have hs : ie.size = 1 := by simpa [hq] using hse
    simp [ho, hx, hi, Instr.index, asIntOf, run_underlying hu, sizeOf, typeInfo, hq, hs, hk, part, isAgg, run_underlying hue, hv, Sem.run_bind, Result.andThen]
    exact hK _ _ h

/-- Segments are returned, with their number of bits and an error's number. -/
def RetBest (w : World) (l : List SegD) (n c : Int) (e : Ending) (w' : World) : Prop :=
  ∃ ao cap, e = .returned (.tuple #[.slice ao l.length cap, .int .i64 n, .int .i64 c]) ∧ SegsN w' w.heap.size ao l ∧ l.length ≤ cap ∧ cap ≤ 9223372036854775807 ∧ Ext w w'
theorem RetBest.nil (w w' : World) (c : Int) (h : Ext w w') : RetBest w [] 0 c (.returned (.tuple #[.slice none 0 0, .int .i64 0, .int .i64 c])) w' :=
  ⟨none, 0, rfl, SegsN.nil _ _ _, Nat.le_refl _, by decide, h⟩

/-- What Best returns. -/
def bestRes (p : List UInt8) (c : Int) : List SegD × Int × Int :=
  if c < 0 ∨ 2 < c then ([], 0, 1) else if 4096 < p.length then ([], 0, 4) else (bestL c.toNat p, ((plan c.toNat p).bits : Int), 0)

/-- The three windows, of which the first i have been brought to a place. -/
structure Wins (w : World) (G H : Nat → Nat) (k n a : Nat) (p : List UInt8) (i : Nat) (Q : Nat → Nat → List Nat) : Prop where
  win : ∀ x, x < 3 → WinE w (G x) (H x) (md x) k n (if x < i then a else a + 1) (Q x)
  inv : ∀ x, x < 3 → ∀ j, j < 3 → QInv (md x) (planAt k p) p (2 ^ cntB (md x) k - 1) (if x < i then a else a + 1) j (Q x j)
/-- The blocks are different ones. -/
structure Apart (B : Nat) (G H : Nat → Nat) (gp gw : Nat) : Prop where
  gg : ∀ x y, x < 3 → y < 3 → x ≠ y → G x ≠ G y ∧ H x ≠ H y ∧ G x ≠ H y
  gh : ∀ x, x < 3 → G x ≠ H x
  pg : ∀ x, x < 3 → gp ≠ G x ∧ gp ≠ H x ∧ gw ≠ G x ∧ gw ≠ H x
  pw : gp ≠ gw
  up : ∀ x, x < 3 → B ≤ G x ∧ B ≤ H x
  pb : B ≤ gp ∧ B ≤ gw

theorem WinE.kept {w w2 : World} {g h : Nat} {m : Int} {k n r : Nat} {Q : Nat → List Nat} (x : WinE w g h m k n r Q) (h1 : w2.heap[g]? = w.heap[g]?) (h2 : w2.heap[h]? = w.heap[h]?) : WinE w2 g h m k n r Q := by
  obtain ⟨qv, ends, X⟩ := x
  exact ⟨qv, ends, X.kept h1 h2⟩
theorem WinE.less {w : World} {g h : Nat} {m : Int} {k n r : Nat} {Q : Nat → List Nat} (x : WinE w g h m k n (r + 1) Q) : WinE w g h m k n r Q := by
  obtain ⟨qv, ends, X⟩ := x
  exact ⟨qv, ends, X.ne, X.blk, X.row, X.len, fun j hj => (X.q j hj).less⟩
theorem WinE.lt {w : World} {g h : Nat} {m : Int} {k n r : Nat} {Q : Nat → List Nat} (x : WinE w g h m k n r Q) : g < w.heap.size ∧ h < w.heap.size := by
  obtain ⟨qv, ends, X⟩ := x
  exact ⟨(Array.getElem?_eq_some_iff.1 X.blk).1, (Array.getElem?_eq_some_iff.1 X.row).1⟩
theorem WinE.mode {w : World} {g h : Nat} {m : Int} {k n r : Nat} {Q : Nat → List Nat} (x : WinE w g h m k n r Q) : w.cell? ⟨g, 0, none⟩ = some (.int .i64 m) := by
  obtain ⟨qv, ends, X⟩ := x
  exact (winC_1 w g m k qv X.blk).1

/-- The window i has been brought on; all other blocks are as they were. -/
theorem Wins.step {w w2 : World} {G H : Nat → Nat} {k n a : Nat} {p : List UInt8} {i : Nat} {Q : Nat → Nat → List Nat} {B gp gw : Nat} (x : Wins w G H k n a p i Q) (hap : Apart B G H gp gw) (hi : i < 3) (hm : Mod (G i) (H i) w w2) (Qi : Nat → List Nat)
    (hw : WinE w2 (G i) (H i) (md i) k n a Qi) (hq : ∀ j, j < 3 → QInv (md i) (planAt k p) p (2 ^ cntB (md i) k - 1) a j (Qi j)) : Wins w2 G H k n a p (i + 1) (upd Q i Qi) := by
  refine ⟨fun y hy => ?_, fun y hy j hj => ?_⟩
  · by_cases e : y = i
    · subst e
      rw [if_pos (by omega)]
      simpa [upd] using hw
    · have h1 := x.win y hy
      have h2 := hap.gg y i hy hi e
      have h3 := hap.gg i y hi hy (fun h => e h.symm)
      have h4 := h1.lt
      rw [show (if y < i + 1 then a else a + 1) = if y < i then a else a + 1 by by_cases h : y < i; (rw [if_pos h, if_pos (by omega)]); (rw [if_neg h, if_neg (by omega)])]
      simp only [upd, if_neg e]
      exact h1.kept (hm.block _ h4.1 h2.1 h2.2.2) (hm.block _ h4.2 (fun e2 => h3.2.2 e2.symm) h2.2.1)
  · by_cases e : y = i
    · subst e
      rw [if_pos (by omega)]
      simpa [upd] using hq j hj
    · rw [show (if y < i + 1 then a else a + 1) = if y < i then a else a + 1 by by_cases h : y < i; (rw [if_pos h, if_pos (by omega)]); (rw [if_neg h, if_neg (by omega)])]
      simp only [upd, if_neg e]
      exact x.inv y hy j hj
theorem Wins.kept {w w2 : World} {G H : Nat → Nat} {k n a : Nat} {p : List UInt8} {i : Nat} {Q : Nat → Nat → List Nat} (x : Wins w G H k n a p i Q) (h : ∀ y, y < 3 → w2.heap[G y]? = w.heap[G y]? ∧ w2.heap[H y]? = w.heap[H y]?) : Wins w2 G H k n a p i Q :=
  ⟨fun y hy => (x.win y hy).kept (h y hy).1 (h y hy).2, x.inv⟩
theorem Wins.next {w : World} {G H : Nat → Nat} {k n a : Nat} {p : List UInt8} {Q : Nat → Nat → List Nat} (x : Wins w G H k n (a + 1) p 3 Q) : Wins w G H k n a p 0 Q :=
  ⟨fun y hy => by have := x.win y hy; rw [if_pos hy] at this; rw [if_neg (by omega)]; exact this, fun y hy j hj => by have := x.inv y hy j hj; rw [if_pos hy] at this; rw [if_neg (by omega)]; exact this⟩


theorem Try.infoPlan : (Try.prog.info? 95).map (fun i => (i.zero, i.size, i.bytes)) = some (some (.agg #[.int .i64 0, .int .i64 0, .int .i64 0, .int .i64 0]), 4, 32) := by kernel_rfl

theorem made_at (z : Array Value) (n i : Nat) (hi : i < n) (hz : 0 < z.size) : (madeCells z n)[i]? = some (z[i % z.size]'(Nat.mod_lt _ hz)) := by
  unfold madeCells
  rw [Array.getElem?_map, Array.getElem?_range, if_pos hi]
  have : i % z.size < z.size := Nat.mod_lt _ hz
  simp [this]

/-- 'make([]plan, n)'. -/
theorem wpList_makeTab {P : Program} {ops : Array Oper} {rest : List Oper} {o : Oper} {a : Act} {Q : Exit → Act → World → Prop} {w : World} (hgd : o.guard = none) (l c : Operand) (t : TypeId) (ho : o.op = Op.makeSlice t l c)
    (e : TypeId) (z : Value) (size bytes : Nat) (hI : (P.info? e).map (fun i => (i.zero, i.size, i.bytes)) = some (some z, size, bytes))
    (ht : P.underlying t = some (.slice e)) (kl kc : IntKind) (n m : Nat) (hl : a.eval l = .int kl n) (hc : a.eval c = .int kc m) (hnm : n ≤ m) (hm : bytes * m ≤ 281474976710656) (hm' : m ≤ 9223372036854775807)
    (h : ∀ w', Hid (w'.heap[w.heap.size]? = some (.cells (madeCells z.cells (m * size)) e (0, 0))) → Hid (Ext w w') → wpList P ops Q rest (a.put o.dst (.slice (some ⟨w.heap.size, 0, none⟩) n m)) w') :
    wpList P ops Q (o :: rest) a w := by
  obtain ⟨i, hi, hz0, hz1, hz2⟩ := info_parts hI
  refine wpList_plain hgd fun K hK => ?_
  have hb' : (i.bytes : Int) * (m : Int) ≤ 281474976710656 := by
    have h : ((i.bytes * m : Nat) : Int) ≤ 281474976710656 := by rw [hz2]; omega
    rwa [Int.natCast_mul] at h
  have hrun := run_make (P := P) w t e i z ht hi hz0 kl kc n m (by omega) (by omega) hb' (by omega)
  simp only [Int.toNat_natCast, hz1] at hrun
  unfold Oper.wp
  simp [execOp, ho, hl, hc, hrun, Result.andThen]
  exact hK _ _ (h _ (heap_alloc_new _ _) (Ext.alloc _ _))

/-- 'make([]Segment, 0, c)'. -/
theorem wpList_makeSegs {P : Program} {ops : Array Oper} {rest : List Oper} {o : Oper} {a : Act} {Q : Exit → Act → World → Prop} {w : World} (hgd : o.guard = none) (l c : Operand) (t : TypeId) (ho : o.op = Op.makeSlice t l c)
    (B : Nat) (hB : B ≤ w.heap.size) (e : TypeId) (z : Value) (size bytes : Nat) (hI : (P.info? e).map (fun i => (i.zero, i.size, i.bytes)) = some (some z, size, bytes))
    (ht : P.underlying t = some (.slice e)) (kl kc : IntKind) (m : Nat) (hl : a.eval l = .int kl 0) (hc : a.eval c = .int kc m) (hm : bytes * m ≤ 281474976710656) (hm' : m ≤ 9223372036854775807)
    (h : ∀ w', w'.ownsRow B e size (.slice (some ⟨w.heap.size, 0, none⟩) 0 m) 0 [] → Hid (Ext w w') → wpList P ops Q rest (a.put o.dst (.slice (some ⟨w.heap.size, 0, none⟩) 0 m)) w') :
    wpList P ops Q (o :: rest) a w := by
  refine wpList_makeTab hgd l c t ho e z size bytes hI ht kl kc 0 m (by simpa using hl) hc (by omega) hm hm' ?_
  intro w' H1 H2
  exact h w' ⟨by simp, Or.inr ⟨w.heap.size, m, madeCells z.cells (m * size), rfl, hB, H1.out, Nat.zero_le _, by unfold maxLen; omega, by simp [size_madeCells], by simp⟩⟩ H2

theorem Tab.made {w : World} {gp n : Nat} {F : Nat → Pl} (h : w.heap[gp]? = some (.cells (madeCells (Value.agg #[.int .i64 0, .int .i64 0, .int .i64 0, .int .i64 0]).cells ((n + 1) * 4)) 95 (0, 0))) (hF : F n = zeroP) : Tab w gp n n F := by
  refine ⟨⟨_, h⟩, fun e he => ?_⟩
  rw [show (if n ≤ e then F e else zeroP) = zeroP by split; (rw [show e = n by omega]; exact hF); rfl]
  have hz : (Value.agg #[.int .i64 0, .int .i64 0, .int .i64 0, .int .i64 0]).cells = #[.int .i64 0, .int .i64 0, .int .i64 0, .int .i64 0] := rfl
  rw [hz] at h
  have key : ∀ i, i < 4 → w.cell? ⟨gp, e * 4 + i, none⟩ = some (.int .i64 0) := by
    intro i hi
    rw [cell_of_row w gp _ _ _ _ h, made_at _ _ _ (by omega) (by simp)]
    have : ∀ x (hx : x < 4), (#[Value.int .i64 0, .int .i64 0, .int .i64 0, .int .i64 0] : Array Value)[x]'(by simpa using hx) = .int .i64 0 := by
      intro x hx
      match x, hx with
      | 0, _ => rfl
      | 1, _ => rfl
      | 2, _ => rfl
      | 3, _ => rfl
    rw [this]
    exact Nat.mod_lt _ (by decide)
  exact ⟨key 0 (by omega), key 1 (by omega), key 2 (by omega), key 3 (by omega)⟩

theorem Tab.there {w : World} {gp n a : Nat} {F : Nat → Pl} (x : Tab w gp n a F) (e : Nat) (he : e < n + 1) : w.there gp (e * 4) 4 := by
  obtain ⟨cs, hcs⟩ := x.blk
  have h := x.at_ e he
  intro j hj
  refine ⟨?_, by simp [World.frozen?, hcs]⟩
  match j, hj with
  | 0, _ => rw [Nat.add_zero, h.c0]; rfl
  | 1, _ => rw [h.c1]; rfl
  | 2, _ => rw [h.c2]; rfl
  | 3, _ => rw [h.c3]; rfl

/-- All blocks but one are as they were. -/
theorem setCells_mod (w : World) (g : Nat) : ∀ (vs : List Value) (o : Nat) (w0 : World), Mod g g w0 w → Mod g g w0 (w.setCells g o vs) := by
  intro vs
  induction vs generalizing w with
  | nil => intro o w0 h; exact h
  | cons v vs ih => intro o w0 h; exact ih _ _ _ (h.set g (Or.inl rfl) _ _)

/-- A plan is stored into the table. -/
theorem wpList_storePlan {P : Program} {ops : Array Oper} {rest : List Oper} {o : Oper} {a : Act} {K : Exit → Act → World → Prop} {w : World} (hg : o.guard = none) (t : TypeId) (x y : Operand) (ho : o.op = .store t x y) (gp n at_ : Nat) (F : Nat → Pl)
    (hx : a.eval x = .pointer (some ⟨gp, at_ * 4, none⟩)) (hy : a.eval y = .agg (plC (F at_))) (hi : (P.info? t).map (·.size) = some 4) (hat : at_ < n + 1) (ht : Tab w gp n (at_ + 1) F)
    (hK : ∀ w', Hid (Tab w' gp n at_ F) → Hid (Mod gp gp w w') → wpList P ops K rest (a.put o.dst undef) w') : wpList P ops K (o :: rest) a w := by
  refine wpList_store_mid hg t x y ho gp (at_ * 4) _ hx hy (ht.there at_ hat) (by rw [hi]; rfl) (plC_one _) ?_
  exact hK _ (ht.store hat) (setCells_mod w gp _ _ _ (Mod.refl _ _ _))

theorem Tab.row {w : World} {gp n a : Nat} {F : Nat → Pl} (x : Tab w gp n a F) (e : Nat) (h1 : a ≤ e) (h2 : e < n + 1) : PlanAt w gp e (F e) := by
  have := x.at_ e h2
  rwa [if_pos h1] at this

theorem bestF_more (k : Nat) : ∀ (f g : Nat) (q : List UInt8), q.length ≤ f → q.length ≤ g → bestF k f q = bestF k g q := by
  intro f
  induction f with
  | zero =>
    intro g q h1 _
    obtain rfl : q = [] := List.eq_nil_of_length_eq_zero (by omega)
    cases g <;> simp [bestF]
  | succ f ih =>
    intro g q h1 h2
    by_cases hq : q = []
    · subst hq
      cases g <;> simp [bestF]
    · have hp : 0 < q.length := List.length_pos_iff.2 hq
      obtain ⟨g, rfl⟩ : ∃ g', g = g' + 1 := ⟨g - 1, by omega⟩
      have hl := (plan_bd k q.length q rfl).2.2.2.2.2 hp
      simp only [bestF, if_neg hq]
      rw [ih g (q.drop (plan k q).len) (by simp; omega) (by simp; omega)]
theorem bestL_cons (k : Nat) (q : List UInt8) (h : q ≠ []) : bestL k q = ((plan k q).mode, q.take (plan k q).len) :: bestL k (q.drop (plan k q).len) := by
  have hp : 0 < q.length := List.length_pos_iff.2 h
  have hl := (plan_bd k q.length q rfl).2.2.2.2.2 hp
  unfold bestL
  obtain ⟨f, hf⟩ : ∃ f, q.length = f + 1 := ⟨q.length - 1, by omega⟩
  rw [hf]
  simp only [bestF, if_neg h]
  rw [bestF_more k f _ (q.drop (plan k q).len) (by simp; omega) (Nat.le_refl _)]
theorem bestL_nil (k : Nat) : bestL k [] = [] := rfl

/-- The best segments number at most the bytes. -/
theorem bestL_len (k : Nat) : ∀ (n : Nat) (q : List UInt8), q.length ≤ n → (bestL k q).length ≤ q.length := by
  intro n
  induction n with
  | zero =>
    intro q h
    obtain rfl : q = [] := List.eq_nil_of_length_eq_zero (by omega)
    simp [bestL_nil]
  | succ n ih =>
    intro q h
    by_cases hq : q = []
    · subst hq; simp [bestL_nil]
    · have hp : 0 < q.length := List.length_pos_iff.2 hq
      have hl := (plan_bd k q.length q rfl).2.2.2.2.2 hp
      rw [bestL_cons k q hq]
      have := ih (q.drop (plan k q).len) (by simp; omega)
      simp at this ⊢
      omega

theorem candJ_none {m : Int} {F : Nat → Pl} {p : List UInt8} {k a j : Nat} {d : Pl} (ha : a < p.length) (hf : fitsB m p[a] = false) : ¬ CandJ m F p k a j d := by
  rintro ⟨e, h1, _⟩
  have := h1.2.2 a p[a] (Nat.le_refl _) h1.1 (List.getElem?_eq_getElem ha)
  rw [hf] at this
  cases this

theorem candJ_unit {m : Int} {F : Nat → Pl} {p : List UInt8} {k a j : Nat} {d : Pl} (h : CandJ m F p k a j d) : j < 3 := by
  obtain ⟨e, _, rfl, _⟩ := h
  have := Nat.mod_lt e (unit_pos m)
  have := unit_le m
  omega


def three (a b c : Nat) : Nat → Nat := fun x => if x = 0 then a else if x = 1 then b else c
def ptrs (G : Nat → Nat) : Array Value := #[.pointer (some ⟨G 0, 0, none⟩), .pointer (some ⟨G 1, 0, none⟩), .pointer (some ⟨G 2, 0, none⟩)]
/-- What lies in memory when i windows have been brought to place a and the table is filled from ta on. -/
structure BSt (w wr : World) (G H : Nat → Nat) (k n : Nat) (p : List UInt8) (gp gw a i ta : Nat) (Q : Nat → Nat → List Nat) : Prop where
  ext : Ext w wr
  ap : Apart w.heap.size G H gp gw
  wins : Wins wr G H k n a p i Q
  tab : Tab wr gp n ta (planAt k p)
  arr : wr.heap[gw]? = some (.cells (ptrs G) 93 (0, 0))

theorem lt_of_some {w : World} {g : Nat} {o : Obj} (h : w.heap[g]? = some o) : g < w.heap.size := (Array.getElem?_eq_some_iff.1 h).1

theorem BSt.ofExt {w wr w2 : World} {G H : Nat → Nat} {k n : Nat} {p : List UInt8} {gp gw a i ta : Nat} {Q : Nat → Nat → List Nat} (x : BSt w wr G H k n p gp gw a i ta Q) (h : Ext wr w2) : BSt w w2 G H k n p gp gw a i ta Q :=
  ⟨x.ext.trans h, x.ap, x.wins.kept fun y hy => ⟨h.block _ (x.wins.win y hy).lt.1, h.block _ (x.wins.win y hy).lt.2⟩, x.tab.kept (h.block _ x.tab.lt), (h.block _ (lt_of_some x.arr)).trans x.arr⟩

/-- A block that is none of these changes. -/
theorem BSt.other {w wr w2 : World} {G H : Nat → Nat} {k n : Nat} {p : List UInt8} {gp gw a i ta g : Nat} {Q : Nat → Nat → List Nat} (x : BSt w wr G H k n p gp gw a i ta Q) (h : Mod g g wr w2) (hg : w.heap.size ≤ g) (h1 : g ≠ gp ∧ g ≠ gw) (h2 : ∀ y, y < 3 → G y ≠ g ∧ H y ≠ g) : BSt w w2 G H k n p gp gw a i ta Q := by
  have hs := x.ext.size
  refine ⟨⟨h.os.trans x.ext.os, h.tape.trans x.ext.tape, h.output.trans x.ext.output, Nat.le_trans hs h.size, fun j hj => (h.block j (by omega) (by omega) (by omega)).trans (x.ext.block j hj)⟩, x.ap, x.wins.kept fun y hy => ?_, x.tab.kept (h.block _ x.tab.lt (fun e => h1.1 e.symm) (fun e => h1.1 e.symm)), (h.block _ (lt_of_some x.arr) (fun e => h1.2 e.symm) (fun e => h1.2 e.symm)).trans x.arr⟩
  exact ⟨h.block _ (x.wins.win y hy).lt.1 (h2 y hy).1 (h2 y hy).1, h.block _ (x.wins.win y hy).lt.2 (h2 y hy).2 (h2 y hy).2⟩

theorem BSt.step {w wr w2 : World} {G H : Nat → Nat} {k n : Nat} {p : List UInt8} {gp gw a i ta : Nat} {Q : Nat → Nat → List Nat} (x : BSt w wr G H k n p gp gw a i ta Q) (hi : i < 3) (hm : Mod (G i) (H i) wr w2) (Qi : Nat → List Nat)
    (hw : WinE w2 (G i) (H i) (md i) k n a Qi) (hq : ∀ j, j < 3 → QInv (md i) (planAt k p) p (2 ^ cntB (md i) k - 1) a j (Qi j)) : BSt w w2 G H k n p gp gw a (i + 1) ta (upd Q i Qi) := by
  have hs := x.ext.size
  have hu := x.ap.up i hi
  have hp := x.ap.pg i hi
  exact ⟨⟨hm.os.trans x.ext.os, hm.tape.trans x.ext.tape, hm.output.trans x.ext.output, Nat.le_trans hs hm.size, fun j hj => (hm.block j (by omega) (by omega) (by omega)).trans (x.ext.block j hj)⟩, x.ap, x.wins.step x.ap hi hm Qi hw hq,
    x.tab.kept (hm.block _ x.tab.lt hp.1 hp.2.1), (hm.block _ (lt_of_some x.arr) hp.2.2.1 hp.2.2.2).trans x.arr⟩

theorem BSt.next {w wr : World} {G H : Nat → Nat} {k n : Nat} {p : List UInt8} {gp gw a ta : Nat} {Q : Nat → Nat → List Nat} (x : BSt w wr G H k n p gp gw (a + 1) 3 ta Q) : BSt w wr G H k n p gp gw a 0 ta Q :=
  ⟨x.ext, x.ap, x.wins.next, x.tab, x.arr⟩

theorem BSt.stored {w wr w2 : World} {G H : Nat → Nat} {k n : Nat} {p : List UInt8} {gp gw a i ta tb : Nat} {Q : Nat → Nat → List Nat} (x : BSt w wr G H k n p gp gw a i ta Q) (h : Mod gp gp wr w2) (ht : Tab w2 gp n tb (planAt k p)) : BSt w w2 G H k n p gp gw a i tb Q := by
  have hs := x.ext.size
  have hb := x.ap.pb
  refine ⟨⟨h.os.trans x.ext.os, h.tape.trans x.ext.tape, h.output.trans x.ext.output, Nat.le_trans hs h.size, fun j hj => (h.block j (by omega) (by omega) (by omega)).trans (x.ext.block j hj)⟩, x.ap, x.wins.kept fun y hy => ?_, ht, (h.block _ (lt_of_some x.arr) (fun e => x.ap.pw e.symm) (fun e => x.ap.pw e.symm)).trans x.arr⟩
  have hp := x.ap.pg y hy
  exact ⟨h.block _ (x.wins.win y hy).lt.1 (fun e => hp.1 e.symm) (fun e => hp.1 e.symm), h.block _ (x.wins.win y hy).lt.2 (fun e => hp.2.1 e.symm) (fun e => hp.2.1 e.symm)⟩

theorem BSt.start {w w1 w2 w3 w4 : World} {k n : Nat} {p : List UInt8} {gp g0 g1 g2 h0 h1 h2 : Nat} (hn : p.length = n) (hgp : gp = w.heap.size) (x1 : Ext w w1) (x2 : Ext w1 w2) (x3 : Ext w2 w3) (x4 : Ext w3 w4)
    (hT : w1.heap[gp]? = some (.cells (madeCells (Value.agg #[.int .i64 0, .int .i64 0, .int .i64 0, .int .i64 0]).cells ((n + 1) * 4)) 95 (0, 0)))
    (a0 : WinE w2 g0 h0 1 k n n (fun _ => [])) (a1 : WinE w3 g1 h1 2 k n n (fun _ => [])) (a2 : WinE w4 g2 h2 4 k n n (fun _ => []))
    (b0 : w1.heap.size ≤ g0) (c0 : w1.heap.size ≤ h0) (b1 : w2.heap.size ≤ g1) (c1 : w2.heap.size ≤ h1) (b2 : w3.heap.size ≤ g2) (c2 : w3.heap.size ≤ h2) :
    BSt w (w4.alloc (.cells #[.pointer (some ⟨g0, 0, none⟩), .pointer (some ⟨g1, 0, none⟩), .pointer (some ⟨g2, 0, none⟩)] 93)) (three g0 g1 g2) (three h0 h1 h2) k n p gp w4.heap.size n 3 n (fun _ _ => []) := by
  have s1 := x1.size
  have s2 := x2.size
  have s3 := x3.size
  have s4 := x4.size
  have hlt := lt_of_some hT
  have l0 := a0.lt
  have l1 := a1.lt
  have l2 := a2.lt
  have n0 : g0 ≠ h0 := by obtain ⟨_, _, X⟩ := a0; exact X.ne
  have n1 : g1 ≠ h1 := by obtain ⟨_, _, X⟩ := a1; exact X.ne
  have n2 : g2 ≠ h2 := by obtain ⟨_, _, X⟩ := a2; exact X.ne
  have x5 := Ext.alloc w4 (.cells #[.pointer (some ⟨g0, 0, none⟩), .pointer (some ⟨g1, 0, none⟩), .pointer (some ⟨g2, 0, none⟩)] 93)
  have e24 := x3.trans (x4.trans x5)
  have e34 := x4.trans x5
  have cases3 : ∀ x, x < 3 → x = 0 ∨ x = 1 ∨ x = 2 := by omega
  refine ⟨(x1.trans x2).trans e24, ⟨?_, ?_, ?_, by omega, ?_, by omega⟩, ⟨?_, ?_⟩, ?_, ?_⟩
  · intro x y hx hy hxy
    rcases cases3 x hx with rfl | rfl | rfl <;> rcases cases3 y hy with rfl | rfl | rfl <;> simp [three] <;> omega
  · intro x hx
    rcases cases3 x hx with rfl | rfl | rfl <;> simp [three] <;> omega
  · intro x hx
    rcases cases3 x hx with rfl | rfl | rfl <;> simp [three] <;> omega
  · intro x hx
    rcases cases3 x hx with rfl | rfl | rfl <;> simp [three] <;> omega
  · intro x hx
    rw [if_pos hx]
    rcases cases3 x hx with rfl | rfl | rfl
    · exact a0.kept (e24.block _ l0.1) (e24.block _ l0.2)
    · exact a1.kept (e34.block _ l1.1) (e34.block _ l1.2)
    · exact a2.kept (x5.block _ l2.1) (x5.block _ l2.2)
  · intro x hx j hj
    rw [if_pos hx, ← hn]
    exact QInv.start _ _ _ _ _
  · refine Tab.made (((x2.trans e24).block _ hlt).trans hT) ?_
    unfold planAt
    rw [List.drop_of_length_le (by omega)]
    exact plan_nil k
  · exact heap_alloc_new _ _

theorem ptrs_at (G : Nat → Nat) (x : Nat) (hx : x < 3) : (ptrs G)[x]? = some (.pointer (some ⟨G x, 0, none⟩)) := by
  have : x = 0 ∨ x = 1 ∨ x = 2 := by omega
  rcases this with rfl | rfl | rfl <;> rfl
theorem ptrs_row {w : World} {g : Nat} {G : Nat → Nat} {t : TypeId} (h : w.heap[g]? = some (.cells (ptrs G) t (0, 0))) : Row w (some ⟨g, 0, none⟩) (ptrs G).toList := by
  have := Row.block h 0 3
  simpa [ptrs] using this
theorem plC_row {w : World} {g : Nat} {b : Pl} {t : TypeId} (h : w.heap[g]? = some (.cells (plC b) t (0, 0))) : Row w (some ⟨g, 0, none⟩) (plC b).toList := by
  have := Row.block h 0 4
  simpa [plC] using this

/-- The new place fits: the queues after a push. -/
theorem push_inv {m : Int} {F : Nat → Pl} {p : List UInt8} {lim a : Nat} {Q : Nat → List Nat} (h : ∀ j, j < 3 → QInv m F p lim (a + 1) j (Q j)) (ha : a < p.length) (hf : fitsB m p[a] = true) (j i : Nat) (hj : (a + 1) % unitN m = j)
    (hi : i ≤ (Q j).length) (hgone : ∀ x b, (Q j)[x]? = some b → i ≤ x → gtW m F b (a + 1)) (hlast : ∀ b, 0 < i → (Q j)[i - 1]? = some b → ¬ gtW m F b (a + 1)) :
    ∀ y, y < 3 → QInv m F p lim a y (upd Q j ((Q j).take i ++ [a + 1]) y) := by
  intro y hy
  unfold upd
  by_cases e : y = j
  · subst e
    rw [if_pos rfl]
    exact (h y hy).push ha hf hj i hi (fun x hx hix => hgone x _ (List.getElem?_eq_getElem hx) hix) (fun h0 => hlast _ h0 (List.getElem?_eq_getElem (by omega)))
  · rw [if_neg e]
    exact (h y hy).other ha hf (by omega)

/-- The best one so far, of the modes before x. -/
def Sofar (k : Nat) (p : List UInt8) (a x : Nat) (d : Pl) : Prop := ∃ y, y < x ∧ ∃ j, j < 3 ∧ CandJ (md y) (planAt k p) p k a j d
theorem sofar_succ (k : Nat) (p : List UInt8) (a x : Nat) (d : Pl) : Sofar k p a (x + 1) d ↔ Sofar k p a x d ∨ ∃ j, j < 3 ∧ CandJ (md x) (planAt k p) p k a j d := by
  constructor
  · rintro ⟨y, hy, h⟩
    by_cases e : y = x
    · subst e; exact Or.inr h
    · exact Or.inl ⟨y, by omega, h⟩
  · rintro (⟨y, hy, h⟩ | h)
    · exact ⟨y, by omega, h⟩
    · exact ⟨x, by omega, h⟩
theorem sofar_all {k : Nat} {p : List UInt8} {a : Nat} {b : Pl} (ha : a < p.length) (h : LeastOf (Sofar k p a 3) topP b) : b = planAt k p a :=
  plan_unique k (p.drop a) b topP (by intro e; have := congrArg List.length e; simp at this; omega) (h.congr fun d => isCand_iff k p a d)

theorem RetBest.own {w w' : World} {B g : Nat} {e : TypeId} {v : Value} {cells : List Value} {l : List SegD} {n c : Int} (h : w'.ownsRow B e 2 v l.length cells) (hB : w.heap.size ≤ B) (hs : SegCells w.heap.size w' g v cells l) (hx : Ext w w') :
    RetBest w l n c (.returned (.tuple #[v, .int .i64 n, .int .i64 c])) w' := by
  rcases h.2 with ⟨rfl, hn⟩ | ⟨g', cap, cur, rfl, hb, hg, hnc, hcm, hcs, htake⟩
  · obtain rfl := List.eq_nil_of_length_eq_zero hn
    exact ⟨none, 0, rfl, SegsN.nil _ _ _, Nat.le_refl _, by decide, hx⟩
  · refine ⟨some ⟨g', 0, none⟩, cap, rfl, ?_, hnc, by unfold maxLen at hcm; omega, hx⟩
    intro i p hi
    obtain ⟨u, h1, h2, ao, cp, h3, h4, h5, h6, h7, h8⟩ := hs i p hi
    have hi' : i < l.length := (List.getElem?_eq_some_iff.1 hi).1
    refine ⟨g', 0, u, rfl, Nat.le_trans hB hb, ?_, ?_, ao, cp, h3, h4, h5, h6, h7, fun a ha => (h8 a ha).2.2.2⟩
    · rw [Nat.zero_add, h.cellAt (i * 2) (by omega)]; exact h1
    · rw [Nat.zero_add, h.cellAt (i * 2 + 1) (by omega)]; exact h2

theorem planAt_more (k : Nat) (p : List UInt8) (a : Nat) (ha : a < p.length) : 1 ≤ (planAt k p a).len ∧ a + (planAt k p a).len ≤ p.length := by
  have h := plan_bd k (p.drop a).length (p.drop a) rfl
  have h2 := h.2.2.2.2.2 (by simp; omega)
  have h3 := h.2.2.1
  simp at h3
  exact ⟨h2.1, by unfold planAt; omega⟩
theorem best_step (k : Nat) (p : List UInt8) (a : Nat) (ha : a < p.length) : bestL k (p.drop a) = ((planAt k p a).mode, (p.drop a).take (planAt k p a).len) :: bestL k (p.drop (a + (planAt k p a).len)) := by
  rw [bestL_cons k (p.drop a) (by intro e; have := congrArg List.length e; simp at this; omega), List.drop_drop]
  rfl

set_option maxRecDepth 20000 in
set_option maxHeartbeats 3200000 in
theorem best_any (ao : Option Addr) (len cap : Nat) (p : List UInt8) (c : Int) (w : World) (hl : p.length = len) (hlc : len ≤ cap) (hb : cap ≤ 9223372036854775807) (hn0 : ao = none → cap = 0) (hr : Row w ao (byts p)) :
    Calls Try.prog 26 #[.slice ao len cap, .int .i64 c] w (RetBest w (bestRes p c).1 (bestRes p c).2.1 (bestRes p c).2.2) := by
  have HL := Lib.hid hl
  rcases class_cases c with hcc | ⟨hcc, hcc'⟩ | hcc
  · rw [show bestRes p c = ([], 0, 1) from by unfold bestRes; rw [if_pos (Or.inl hcc)]]
    clear hl
    go_enter Try.func26, Try.ntmps26
    go_wp2_with fail
    go_ret3
    exact RetBest.nil _ _ _ (Ext.refl _)
  · rw [show bestRes p c = ([], 0, 1) from by unfold bestRes; rw [if_pos (Or.inr hcc')]]
    clear hl
    go_enter Try.func26, Try.ntmps26
    go_wp2_with fail
    go_ret3
    exact RetBest.nil _ _ _ (Ext.refl _)
  · obtain ⟨k, rfl, hk⟩ : ∃ k : Nat, c = k ∧ k ≤ 2 := ⟨c.toNat, by omega, by omega⟩
    clear hcc
    by_cases hbig : 4096 < len
    · rw [show bestRes p k = ([], 0, 4) from by unfold bestRes; rw [if_neg (by omega), if_pos (by omega)]]
      clear hl
      go_enter Try.func26, Try.ntmps26
      go_wp2_with fail
      go_ret3
      exact RetBest.nil _ _ _ (Ext.refl _)
    · rw [show bestRes p k = (bestL k p, ((plan k p).bits : Int), 0) from by unfold bestRes; rw [if_neg (by omega), if_neg (by omega)]; simp]
      simp only
      have hn : len ≤ 4096 := by omega
      have HR := Lib.hid hr
      have HN0 := Lib.hid hn0
      clear hl hbig hr hn0
      go_enter Try.func26, Try.ntmps26
      go_upto_region 7 with (at_make; refine wpList_makeTab rfl _ _ 90 rfl 95 _ 4 32 Try.infoPlan Try.underlying90 _ _ (len + 1) (len + 1) rfl rfl (Nat.le_refl _) (by omega) (by omega) ?_; intro w1 HT1 HX1)
      obtain ⟨gp, hgp⟩ : ∃ gp, gp = w.heap.size := ⟨_, rfl⟩
      rw [← hgp] at HT1 ⊢
      have HGP := Lib.hid hgp
      clear hgp
      go_wp2_with fail
      refine (newWindow_any 1 k len w1 rfl hk hn).mono ?_
      rintro e w2 ⟨g0, h0, rfl, hw0, hx2, hg0, hh0⟩
      have HW0 := Lib.hid hw0
      have HX2 := Lib.hid hx2
      clear hw0 hx2
      go_wp2_with fail
      refine (newWindow_any 2 k len w2 rfl hk hn).mono ?_
      rintro e w3 ⟨g1, h1, rfl, hw1, hx3, hg1, hh1⟩
      have HW1 := Lib.hid hw1
      have HX3 := Lib.hid hx3
      clear hw1 hx3
      go_wp2_with fail
      refine (newWindow_any 4 k len w3 rfl hk hn).mono ?_
      rintro e w4 ⟨g2, h2, rfl, hw2, hx4, hg2, hh2⟩
      have HW2 := Lib.hid hw2
      have HX4 := Lib.hid hx4
      clear hw2 hx4
      go_wp2_with fail
      have HB := Lib.hid (BSt.start (p := p) HL.out HGP.out HX1.out HX2.out HX3.out HX4.out HT1.out HW0.out HW1.out HW2.out hg0 hh0 hg1 hh1 hg2 hh2)
      obtain ⟨gw, hgw⟩ : ∃ gw, gw = w4.heap.size := ⟨_, rfl⟩
      rw [← hgw] at HB ⊢
      generalize World.alloc w4 _ = w5 at HB ⊢
      clear hgw hg0 hh0 hg1 hh1 hg2 hh2 HW0 HW1 HW2 HX1 HX2 HX3 HX4 HT1 HGP
      generalize three g0 g1 g2 = G at HB
      generalize three h0 h1 h2 = H at HB

      go_loopw [10, 11, 13] (fun t _ _ wr => ∃ (a : Nat) (Q : Nat → Nat → List Nat), a ≤ len ∧ t = .int .i64 ((a : Int) - 1) ∧ Hid (BSt w wr G H k len p gp gw a 3 a Q)) (fun t _ _ _ => ((intOf t) + 1).toNat)
      case atStart => exact ⟨len, _, Nat.le_refl _, rfl, HB⟩
      case round =>
        clear HB
        obtain ⟨a, Q, ha, rfl, HB⟩ := hrel
        rcases Nat.eq_zero_or_pos a with ha0 | ha0
        · subst ha0
          have HTB := Lib.hid HB.out.tab
          have HXS := Lib.hid HB.out.ext
          obtain ⟨wS, rfl⟩ : ∃ wS, wS = wr := ⟨_, rfl⟩
          clear HB ha
          have hsg : (planAt k p 0).seg ≤ 4096 := (planAt_bd k p (by rw [HL.out]; exact hn) 0).2
          have z1 : wS.cell? ⟨gp, 1, none⟩ = some (.int .i64 (planAt k p 0).seg) := by simpa using (HTB.out.row 0 (Nat.le_refl _) (by omega)).c1
          obtain ⟨sg, hsge⟩ : ∃ sg, sg = (planAt k p 0).seg := ⟨_, rfl⟩
          rw [← hsge] at hsg z1
          clear hsge
          have hae : (((0 : Nat) : Int) - 1) = -1 := rfl
          rw [hae]
          go_wp2_with (at_make; refine wpList_makeSegs rfl _ _ 25 rfl wS.heap.size (Nat.le_refl _) 33 _ 2 32 Try.infoSeg Try.underlying25 _ _ sg rfl rfl (by omega) (by omega) ?_; intro w1 hown1 HX1)
          go_loopw [14, 15, 16] (fun v t _ wy => ∃ (a : Nat) (l : List SegD) (cells : List Value), a ≤ len ∧ t = .int .i64 a ∧ l.length ≤ a ∧ wy.ownsRow wS.heap.size 33 2 v l.length cells ∧ Hid (SegCells w.heap.size wy gp v cells l) ∧ Hid (l ++ bestL k (p.drop a) = bestL k p) ∧ Hid (Keep wS (.slice none 0 0) wy v)) (fun _ t _ _ => len - (intOf t).toNat)
          case atStart => exact ⟨0, [], [], by omega, rfl, Nat.le_refl _, hown1, SegCells.nil _ _ _ _, rfl, Keep.made HX1.out (fun k' hk' => by simp [Value.ownBlock] at hk'; omega)⟩
          case round =>
            clear hown1 HX1 z1
            obtain ⟨a, l, cells, ha, rfl, hla, hown, HSC, HBL, HK⟩ := hrel
            have HXY := Lib.hid (HK.out.toExt rfl)
            by_cases hal : a < len
            · have hap : a < p.length := by rw [HL.out]; exact hal
              obtain ⟨hq1, hq2⟩ := planAt_more k p a hap
              rw [HL.out] at hq2
              have HPA := Lib.hid ((HTB.out.row a (Nat.zero_le _) (by omega)).ext HXY.out)
              have z2 := HPA.out.c2
              have z3 := HPA.out.c3
              have HST := Lib.hid (best_step k p a hap)
              obtain ⟨M, hM⟩ : ∃ M, M = (planAt k p a).mode := ⟨_, rfl⟩
              obtain ⟨L, hL⟩ : ∃ L, L = (planAt k p a).len := ⟨_, rfl⟩
              have HZ2 := Lib.hid HPA.out.c2
              rw [← hM] at z3 HST
              rw [← hL] at z2 hq1 hq2 HST HZ2
              clear hM hL
              have HRY := Lib.hid (HR.out.ext (HXS.out.trans HXY.out))
              obtain ⟨ad, rfl, _⟩ := HRY.out.at (byts_at p a hap)
              have hdl : ((p.drop a).take L).length = L := by rw [List.length_take, List.length_drop, HL.out]; omega
              have hcapa : a < cap := by omega
              obtain ⟨D, hD⟩ : ∃ D, D = (p.drop a).take L := ⟨_, rfl⟩
              have HDR : Hid (∀ ao', ao' = (some ad : Option Addr).map (·.add a) → Row wr ao' (byts D)) := by
                intro ao' h'
                rw [hD, byts_cut]
                exact HRY.out.cut a L (fun _ _ => h')
              rw [← hD] at hdl HST
              have HDL := Lib.hid hdl
              clear hD hdl
              have HSZ0 : Hid (wS.heap.size ≤ wr.heap.size) := HXY.out.size
              go_upto_region 26 with (at_builtin; refine wpList_app rfl _ _ 22 rfl wr.heap.size 5 (.int .u8 0) 1 1 Try.infoByte rfl (by decide) Try.underlying22 _ rfl 0 [] (World.ownsRow_nil _ _ _ _) _ _ _ rfl (byts D) (HDR.out _ rfl) (by rw [length_byts, HDL.out]; omega) (fun h => by cases h) (byts_oneCell _) (by omega) (by omega) (Nat.le_refl _) ?_; intro s5 w5 hown5 hk5)
              have hx5 : Ext wr w5 := hk5.toExt rfl
              have hown5' : w5.ownsRow wr.heap.size 5 1 s5 L (byts D) := by
                rw [show 0 + (a + L - a) = L by omega, List.nil_append] at hown5
                exact hown5
              clear hown5 hk5
              obtain ⟨so5, sc5, rfl, hso5, hsm5, _, hsr5⟩ := own_row hown5'
              have HDA : Hid (DatA w.heap.size w5 gp u14 (.slice so5 L sc5) D) := by
                refine ⟨so5, sc5, by rw [HDL.out], hsr5, by rw [HDL.out]; exact hso5, by unfold maxLen at hsm5; omega, own_nil' hown5', ?_⟩
                intro b hb
                subst hb
                have h1 := hown5'.lt b.block rfl
                have h2 := HTB.out.lt
                have h3 := HXS.out.size
                have h4 := HSZ0.out
                refine ⟨by omega, ?_, h1.2, by omega⟩
                intro e
                have := (hown.lt b.block e).2
                omega
              have hown6 := own_extN hown hx5
              have HSC5 := Lib.hid (HSC.out.keep (KeepG.ofExt (g := gp) hx5 u14))
              have z3' := hx5.cell z3
              have HK5 := Lib.hid (HK.out.ext hx5)
              have HZ5 := Lib.hid (hx5.cell HZ2.out)
              have HC2 : Hid (cells.length = l.length * 2) := hown.1
              have HSZ5 : Hid (wS.heap.size ≤ w5.heap.size) := Nat.le_trans HSZ0.out hx5.size
              have HGPL : Hid (gp < wS.heap.size) := HTB.out.lt
              clear hown5' hsr5 z2 z3 hown HSC HK hx5
              go_wp2_with (at_builtin; refine wpList_pushK rfl _ _ 25 rfl wS.heap.size 33 (.agg #[.int .i64 0, .slice none 0 0]) 2 32 Try.infoSeg rfl (by decide) Try.underlying25 _ rfl _ _ hown6 [.int .i64 M, .slice so5 L sc5] rfl rfl (by simp [Value.oneCell']) (by omega) (by omega) HSZ5.out ?_; intro s4 w4 hown4 hk4; have q2 := hk4.cell HZ5.out (own_below hown6 HGPL.out))
              have HSC4 := Lib.hid ((HSC5.out.snoc (m := M) HC2.out HDA.out).keep (KeepG.ofKeep hk4))
              have hown4' : w4.ownsRow wS.heap.size 33 2 s4 (l ++ [(M, D)]).length (cells ++ [.int .i64 M, .slice so5 L sc5]) := by
                rw [List.length_append]; exact hown4
              refine ⟨⟨a + L, l ++ [(M, D)], _, by omega, int_eq (by omega), by rw [List.length_append]; simp; omega, hown4', HSC4, Lib.hid ?_, Lib.hid (HK5.out.trans hk4)⟩, by simp [intOf]; omega⟩
              have h1 := HBL.out
              rw [HST.out] at h1
              rw [List.append_assoc]
              exact h1
            · obtain rfl : a = len := by omega
              have z0 : wr.cell? ⟨gp, 0, none⟩ = some (.int .i64 (planAt k p 0).bits) := by simpa using (HXY.out.cell (HTB.out.row 0 (Nat.le_refl _) (by omega)).c0)
              go_wp2_with fail
              go_quiet (fail)
              go_wp2_with fail
              go_ret3
              have hpl : planAt k p 0 = plan k p := by unfold planAt; rw [List.drop_zero]
              have hfin : l = bestL k p := by
                have h1 := HBL.out
                rw [List.drop_of_length_le (by rw [HL.out]; exact Nat.le_refl _), bestL_nil, List.append_nil] at h1
                exact h1
              rw [← hfin, ← hpl]
              have hxn := (Ext.refl wr).drewN nq
              exact RetBest.own (own_extN hown hxn) HXS.out.size (HSC.out.keep (KeepG.ofExt hxn _)) ((HXS.out.trans HXY.out).trans hxn)
        · obtain ⟨a, rfl⟩ : ∃ a', a = a' + 1 := ⟨a - 1, by omega⟩
          clear ha0
          have hae : ((a + 1 : Nat) : Int) - 1 = (a : Int) := by omega
          rw [hae]
          have hal : a < p.length := by have := HL.out; omega
          go_upto_region 12 with fail
          have HB1 := Lib.hid (HB.out.next.ofExt (Ext.alloc wr (.cells #[.int .i64 9223372036854775807, .int .i64 0, .int .i64 0, .int .i64 0] 95)))
          have HGB : Hid ((wr.alloc (.cells #[.int .i64 9223372036854775807, .int .i64 0, .int .i64 0, .int .i64 0] 95)).heap[wr.heap.size]? = some (.cells (plC topP) 95 (0, 0))) := heap_alloc_new _ _
          obtain ⟨gb, hgb⟩ : ∃ gb, gb = wr.heap.size := ⟨_, rfl⟩
          have HGN : Hid (w.heap.size ≤ gb ∧ (gb ≠ gp ∧ gb ≠ gw) ∧ ∀ y, y < 3 → G y ≠ gb ∧ H y ≠ gb) := by
            have h1 := HB.out.ext.size
            have h2 := HB.out.tab.lt
            have h3 := lt_of_some HB.out.arr
            refine ⟨by omega, by omega, fun y hy => ?_⟩
            have h4 := (HB.out.wins.win y hy).lt
            omega
          rw [← hgb] at HGB ⊢
          generalize World.alloc wr _ = wa at HB1 HGB ⊢
          clear hgb HB
          have HAR := Lib.hid (ptrs_row HB1.out.arr)
          go_wp2_with ((with_reducible show wpList _ _ _ (⟨some 47, _, _, _, _, _⟩ :: _) _ _); refine wpList_loadAgg rfl 93 _ rfl _ Try.underlying93 rfl _ rfl _ HAR.out (by kernel_rfl) ?_)
          go_loopw [13, 48] (fun _ i wx => ∃ (x : Nat) (Q : Nat → Nat → List Nat) (b : Pl), x ≤ 3 ∧ i = .int .i64 x ∧ Hid (BSt w wx G H k len p gp gw a x (a + 1) Q) ∧ Hid (wx.heap[gb]? = some (.cells (plC b) 95 (0, 0))) ∧ Hid (LeastOf (Sofar k p a x) topP b)) (fun _ i _ => 3 - (intOf i).toNat)
          case atStart => exact ⟨0, _, topP, by omega, rfl, HB1, HGB, LeastOf.empty fun d h => by obtain ⟨y, hy, _⟩ := h; omega⟩
          case round =>
            clear HB1 HGB HAR
            obtain ⟨x, Q, b, hx, rfl, HB, HGB, HLO⟩ := hrel
            by_cases hx3 : x < 3
            · have hxi : (x : Int) < 3 := by omega
              have z0 := (HB.out.wins.win x hx3).mode
              obtain ⟨ad, rfl, hcb⟩ := (HR.out.ext HB.out.ext).at (byts_at p a hal)
              have HFA := fun W => Lib.hid (fits_any (md x) p[a] W)
              have HPI := Lib.hid (ptrs_at G x hx3)
              cases hfi : fitsB (md x) p[a]
              · simp only [hfi] at HFA
                have HFI := Lib.hid hfi
                clear hfi
                go_wp2_with ((with_reducible show wpList _ _ _ (⟨some 50, _, _, _, _, _⟩ :: _) _ _); refine wpList_indexPtr rfl 93 _ _ rfl 3 _ _ Try.underlying93 Try.underlying91 (by kernel_rfl) _ rfl _ x rfl hx3 _ HPI.out ?_)
                go_quiet ((go_at_call 38; exact quiet_same (HFA _).out))
                go_wp2_with fail
                refine (clear_any (G x) (H x) (md x) k len (a + 1) (Q x) _ ?_).mono ?_
                · have := HB.out.wins.win x hx3
                  rw [if_neg (Nat.lt_irrefl _)] at this
                  exact this.kept rfl rfl
                · rintro e w7 ⟨rfl, hw7, hm7⟩
                  go_wp2_with fail
                  have hgn := HGN.out.2.2 x hx3
                  refine ⟨⟨x + 1, upd Q x (fun _ => []), b, by omega, by rw [Int.natCast_succ], Lib.hid ?_, Lib.hid ?_, Lib.hid ?_⟩, by simp [intOf]; omega⟩
                  · exact (HB.out.ofExt ((Ext.refl _).drewN nq)).step hx3 hm7 _ hw7.less (fun j _ => QInv.clear _ _ _ _ _ _ hal HFI.out)
                  · exact (hm7.block gb (lt_of_some HGB.out) (fun e => hgn.1 e.symm) (fun e => hgn.2 e.symm)).trans HGB.out
                  · exact HLO.out.congr fun d => by rw [sofar_succ]; exact ⟨fun h => h.elim id (fun ⟨j, _, h⟩ => absurd h (candJ_none hal HFI.out)), Or.inl⟩
              · simp only [hfi] at HFA
                have HFI := Lib.hid hfi
                clear hfi
                go_wp2_with ((with_reducible show wpList _ _ _ (⟨some 50, _, _, _, _, _⟩ :: _) _ _); refine wpList_indexPtr rfl 93 _ _ rfl 3 _ _ Try.underlying93 Try.underlying91 (by kernel_rfl) _ rfl _ x rfl hx3 _ HPI.out ?_)
                go_quiet ((go_at_call 38; exact quiet_same (HFA _).out))
                go_wp2_with fail
                obtain ⟨j, hj⟩ : ∃ j, (a + 1) % unitN (md x) = j := ⟨_, rfl⟩
                have hj3 : j < 3 := by have := Nat.mod_lt (a + 1) (unit_pos (md x)); have := unit_le (md x); omega
                have HB2 := Lib.hid (HB.out.ofExt ((Ext.refl _).drewN nq))
                have HWN : Hid (WinE (wr.drewN nq) (G x) (H x) (md x) k len (a + 1) (Q x)) := by
                  have := HB2.out.wins.win x hx3
                  rw [if_neg (Nat.lt_irrefl _)] at this
                  exact this
                have HQI : Hid (∀ j, j < 3 → QInv (md x) (planAt k p) p (2 ^ cntB (md x) k - 1) (a + 1) j (Q x j)) := by
                  have := HB2.out.wins.inv x hx3
                  rw [if_neg (Nat.lt_irrefl _)] at this
                  exact this
                have HBD : Hid (∀ e, (planAt k p e).bits ≤ 1048576 ∧ (planAt k p e).seg ≤ 4096) := fun e => by have := planAt_bd k p (by rw [HL.out]; exact hn) e; omega
                have HPL := Lib.hid (HB2.out.tab.plans HBD.out)
                have hqb : ∀ y, y < 3 → ∀ e ∈ Q x y, a + 1 ≤ e ∧ e < len + 1 := fun y hy e he => by
                  have := ((HQI.out y hy).mem e he).1
                  have h2 := this.2.1
                  rw [HL.out] at h2
                  exact ⟨Nat.le_of_lt this.1, by omega⟩
                have hgn := HGN.out.2.2 x hx3
                have hpg := HB.out.ap.pg x hx3
                refine (push_any (G x) (H x) gp (a + 1) (md x) k len a (a + 1) j (Q x) (planAt k p) _ hj hn (by omega) (Nat.le_refl _) HWN.out HPL.out (hqb j hj3)).mono ?_
                rintro e w7 ⟨rfl, hm7, i, hi, hgone, hlast, hw7⟩
                have HPI2 := Lib.hid (push_inv HQI.out hal HFI.out j i hj hi hgone hlast)
                have HW7 := Lib.hid hw7
                have HM7 := Lib.hid hm7
                have HGB7 := Lib.hid ((hm7.block gb (lt_of_some HGB.out) (fun e => hgn.1 e.symm) (fun e => hgn.2 e.symm)).trans HGB.out)
                have HRB := Lib.hid (plC_row HGB7.out)
                have HPL7 : Hid (Plans w7 gp (len + 1) (a + 1) (planAt k p)) := (HB2.out.tab.kept (hm7.block gp HB2.out.tab.lt hpg.1 hpg.2.1)).plans HBD.out
                clear hw7 hm7 hgone hlast hi HPL HWN hqb
                generalize hQp : upd (Q x) j ((Q x j).take i ++ [a + 1]) = Qp at HPI2 HW7
                clear hQp
                go_wp2_with ((with_reducible show wpList _ _ _ (⟨some 71, _, _, _, _, _⟩ :: _) _ _); refine wpList_loadAgg rfl 95 _ rfl _ Try.underlying95 rfl _ rfl _ HRB.out (by kernel_rfl) ?_)
                refine (choose_any (G x) (H x) gp (a + 1) (md x) k len a a Qp (planAt k p) b _ (md_ok x) hk hn HW7.out HPL7.out ⟨hpg.1, hpg.2.1⟩ (fun y hy e he => ?_)).mono ?_
                · have := ((HPI2.out y hy).mem e he).1
                  have h2 := this.2.1
                  have h3 := this.1
                  rw [HL.out] at h2
                  exact ⟨by omega, by omega, h3⟩
                rintro e w8 ⟨Q8, hpop, rfl, hw8, hm8⟩
                have HPOP := Lib.hid hpop
                have HW8 := Lib.hid hw8
                have HGB8 := Lib.hid ((hm8.block gb (lt_of_some HGB7.out) (fun e => hgn.1 e.symm) (fun e => hgn.2 e.symm)).trans HGB7.out)
                have HM8 := Lib.hid (HM7.out.trans hm8)
                clear hpop hw8 hm8
                go_wp2_with ((with_reducible show wpList _ _ _ (⟨none, .store 95 _ _, _, _, _, _⟩ :: _) _ _); refine wpList_storeM rfl 95 _ _ rfl gb _ rfl rfl 95 _ HGB8.out (by kernel_rfl) (by kernel_rfl) (plC_one _) ?_; intro w9 H9 HM9)
                refine ⟨⟨x + 1, upd Q x Q8, _, by omega, by rw [Int.natCast_succ], Lib.hid ?_, H9, Lib.hid ?_⟩, by simp [intOf]; omega⟩
                · exact (HB2.out.step hx3 HM8.out Q8 HW8.out (fun y hy => Popped.inv (HPI2.out y hy) (HPOP.out y hy))).other HM9.out HGN.out.1 HGN.out.2.1 HGN.out.2.2
                · exact (picks_least (md_ok x) hk (fun e => (HBD.out e).1) (by rw [HL.out]; exact hn) HPI2.out HPOP.out HLO.out 3 (Nat.le_refl _)).congr fun d => sofar_succ k p a x d
            · obtain rfl : x = 3 := by omega
              obtain rfl : b = planAt k p a := sofar_all hal HLO.out
              have HRB := Lib.hid (plC_row HGB.out)
              have HTB := Lib.hid HB.out.tab
              clear HLO hx3 hx
              go_wp2_with (first
                | ((with_reducible show wpList _ _ _ (⟨some 76, _, _, _, _, _⟩ :: _) _ _); refine wpList_loadAgg rfl 95 _ rfl _ Try.underlying95 rfl _ rfl _ HRB.out (by kernel_rfl) ?_)
                | ((with_reducible show wpList _ _ _ (⟨none, .store 95 _ _, _, _, _, _⟩ :: _) _ _); refine wpList_storePlan rfl 95 _ _ rfl gp len a (planAt k p) (by simp [Act.eval]) rfl (by kernel_rfl) (by omega) HTB.out ?_; intro w9 H9 HM9))
              refine ⟨⟨a, Q, by omega, by rfl, Lib.hid (HB.out.stored HM9.out H9.out)⟩, by simp [intOf]⟩

end Go.Proofs.Ythebfpolijajgaa
