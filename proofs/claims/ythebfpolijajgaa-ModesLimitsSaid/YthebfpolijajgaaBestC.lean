/-
  The contract of (*window).choose.
  Conditions: the blocks' cells are given; small numbers.
-/
import Derived.Test.YthebfpolijajgaaBestB
import Derived.Deep.RegionHeld3
namespace Go.Proofs.Ythebfpolijajgaa
open Go.RowKit Go.Bs Go.Mode

/-- The better one of a plan and the best one of a queue. -/
def pickB (m : Int) (k at_ : Nat) (F : Nat → Pl) (b : Pl) : List Nat → Pl
  | [] => b
  | e :: _ => if (candP m k (e - at_) (F e)).lt b then candP m k (e - at_) (F e) else b
/-- The front of a queue without the ends that are too far away. -/
def Popped (lim at_ : Nat) (Q Q' : List Nat) : Prop := ∃ c, Q' = Q.drop c ∧ (∀ x e, Q[x]? = some e → x < c → lim < e - at_) ∧ (∀ e, Q[c]? = some e → e - at_ ≤ lim)
def picks (m : Int) (k at_ : Nat) (F : Nat → Pl) (b : Pl) (Q : Nat → List Nat) (j : Nat) : Pl := (List.range j).foldl (fun b i => pickB m k at_ F b (Q i)) b
theorem picks_succ (m : Int) (k at_ : Nat) (F : Nat → Pl) (b : Pl) (Q : Nat → List Nat) (j : Nat) : picks m k at_ F b Q (j + 1) = pickB m k at_ F (picks m k at_ F b Q j) (Q j) := by simp [picks, List.range_succ]
theorem picks_upd (m : Int) (k at_ : Nat) (F : Nat → Pl) (b : Pl) (Q : Nat → List Nat) (j : Nat) (L : List Nat) : picks m k at_ F b (upd Q j L) j = picks m k at_ F b Q j := by
  have : ∀ i, i ≤ j → picks m k at_ F b (upd Q j L) i = picks m k at_ F b Q i := by
    intro i
    induction i with
    | zero => intro _; rfl
    | succ i ih => intro h; rw [picks_succ, picks_succ, ih (by omega), upd, if_neg (by omega)]
  exact this j (Nat.le_refl _)

def ChoosePost (w : World) (g h : Nat) (m : Int) (k n r at_ : Nat) (Q : Nat → List Nat) (F : Nat → Pl) (b : Pl) (e : Ending) (w' : World) : Prop :=
  ∃ Q', (∀ j, j < 3 → Popped (2 ^ cntB m k - 1) at_ (Q j) (Q' j)) ∧ e = .returned (.agg (plC (picks m k at_ F b Q' 3))) ∧ WinE w' g h m k n r Q' ∧ Mod g h w w'

theorem cnt_le (m : Int) (k : Nat) (hk : k ≤ 2) : cntB m k ≤ 16 := by unfold cntB; split <;> (try split) <;> (try split) <;> omega

theorem QOk.tail {h n r : Nat} {ends : List Value} {j off len cap c : Nat} {L : List Nat} (q : QOk h n r ends j (.slice (some ⟨h, off, none⟩) len cap) (L.drop c)) (hl : c < L.length) (o2 : Nat) (ho : o2 = if cap = 1 then off else off + 1) :
    QOk h n r ends j (.slice (some ⟨h, o2, none⟩) (len - 1) (cap - 1)) (L.drop (c + 1)) := by
  obtain ⟨off', cap', h1, h2, h3, h4, h5, h6⟩ := q
  simp only [Value.slice.injEq, Option.some.injEq, Addr.mk.injEq, true_and, and_true] at h1
  obtain ⟨rfl, rfl, rfl⟩ := h1
  have hll : (L.drop c).length = L.length - c := by simp
  refine ⟨o2, cap - 1, by simp; omega, ?_, ?_, ?_, by omega, ?_⟩
  · subst ho; split <;> omega
  · subst ho; split <;> omega
  · simp; omega
  · intro i e hi
    have hil := (List.getElem?_eq_some_iff.1 hi).1
    simp at hil
    have hc1 : cap ≠ 1 := by omega
    rw [ho, if_neg hc1]
    have := h6 (i + 1) e (by rw [List.getElem?_drop] at hi ⊢; rw [← hi]; congr 1; omega)
    rw [← this]
    congr 1
    omega

/-- A struct is stored whole into a block. -/
theorem wpList_storeM {P : Program} {ops : Array Oper} {rest : List Oper} {o : Oper} {a : Act} {K : Exit → Act → World → Prop} {w : World} (hg : o.guard = none) (t : TypeId) (x y : Operand) (ho : o.op = .store t x y) (g : Nat) (cells : Array Value) (hx : a.eval x = .pointer (some ⟨g, 0, none⟩)) (hy : a.eval y = .agg cells)
    (tt : TypeId) (old : Array Value) (hgl : w.heap[g]? = some (.cells old tt (0, 0))) (hi : (P.info? t).map (·.size) = some cells.size) (hold : old.size = cells.size) (h1 : cells.all (·.oneCell') = true)
    (hK : ∀ w', Hid (w'.heap[g]? = some (.cells cells tt (0, 0))) → Hid (Mod g g w w') → wpList P ops K rest (a.put o.dst undef) w') : wpList P ops K (o :: rest) a w :=
  wpList_store_row hg t x y ho g cells hx hy tt old hgl hi hold h1 (hK _ (setRow_heap w g old cells tt (0, 0) hgl) ⟨rfl, rfl, rfl, by rw [setRow_size]; exact Nat.le_refl _, fun i _ hi _ => setRow_other w g i cells hi⟩)
theorem PlanAt.row {w : World} {gp e : Nat} {p : Pl} (x : PlanAt w gp e p) : Row w (some ⟨gp, e * 4, none⟩) (plC p).toList := by
  intro i v hi
  refine ⟨_, rfl, ?_⟩
  rw [add_off]
  match i, hi with
  | 0, hi => simp [plC] at hi; subst hi; exact x.c0
  | 1, hi => simp [plC] at hi; subst hi; exact x.c1
  | 2, hi => simp [plC] at hi; subst hi; exact x.c2
  | 3, hi => simp [plC] at hi; subst hi; exact x.c3
  | n + 4, hi => simp [plC] at hi
theorem plC_one (p : Pl) : (plC p).all (·.oneCell') = true := by simp [plC, Value.oneCell']

def ChInv (w : World) (g h : Nat) (m : Int) (k n r at_ lim : Nat) (Q : Nat → List Nat) (F : Nat → Pl) (b : Pl) (j : Nat) (wr : World) (Qs : Nat → List Nat) : Prop :=
  WinE wr g h m k n r Qs ∧ (∀ i, i < j → Popped lim at_ (Q i) (Qs i)) ∧ (∀ i, j ≤ i → Qs i = Q i) ∧ Mod g h w wr ∧
    wr.heap[w.heap.size]? = some (.cells (plC (picks m k at_ F b Qs j)) 95 (0, 0)) ∧ wr.heap[w.heap.size + 1]? = some (.cells (plC zeroP) 95 (0, 0))

theorem ChInv.next {w wo w2 w9 : World} {g h : Nat} {m : Int} {k n r at_ lim : Nat} {Q Qs : Nat → List Nat} {F : Nat → Pl} {b : Pl} {j : Nat} {qv : Nat → Value} {ends : List Value} (H : ChInv w g h m k n r at_ lim Q F b j wo Qs) (x : Win wo g h m k n r qv ends Qs) (hlt : g < w.heap.size ∧ h < w.heap.size) (hj : j < 3) (he : Ext wo w2)
    (v : Value) (L' : List Nat) (hq : QOk h n r ends j v L') (hpop : Popped lim at_ (Q j) L') (hm : Mod w.heap.size w.heap.size (w2.setCell ⟨g, 9 + j, none⟩ v) w9)
    (hb : w9.heap[w.heap.size]? = some (.cells (plC (pickB m k at_ F (picks m k at_ F b Qs j) L')) 95 (0, 0))) : ChInv w g h m k n r at_ lim Q F b (j + 1) w9 (upd Qs j L') := by
  obtain ⟨_, h1, h2, h3, h4, h5⟩ := H
  have hsz : (w2.setCell ⟨g, 9 + j, none⟩ v).heap.size = w2.heap.size := by simp [World.setCell]
  have s4 : w.heap.size < wo.heap.size := (Array.getElem?_eq_some_iff.1 h4).1
  have s5 : w.heap.size + 1 < wo.heap.size := (Array.getElem?_eq_some_iff.1 h5).1
  have s6 := he.size
  have hwin := x.put (he.block g (by omega)) ((he.block h (by omega)).trans x.row) rfl j hj v L' (fun i hi _ => x.q i hi) hq
  have m3 : Mod g h w (w2.setCell ⟨g, 9 + j, none⟩ v) := (h3.trans (Mod.ofExt he)).set g (Or.inl rfl) _ _
  refine ⟨⟨_, _, hwin.kept (hm.block g (by omega) (by omega) (by omega)) (hm.block h (by omega) (by omega) (by omega))⟩, fun i hi => ?_, fun i hi => ?_, ?_, ?_, ?_⟩
  · unfold upd
    by_cases e : i = j
    · subst e; simpa using hpop
    · simpa [e] using h1 i (by omega)
  · unfold upd
    rw [if_neg (by omega)]
    exact h2 i (by omega)
  · exact ⟨hm.os.trans m3.os, hm.tape.trans m3.tape, hm.output.trans m3.output, Nat.le_trans m3.size hm.size, fun i hi e1 e2 => (hm.block i (by have := m3.size; omega) (by omega) (by omega)).trans (m3.block i hi e1 e2)⟩
  · rw [hb, picks_succ, picks_upd]
    simp [upd]
  · rw [hm.block (w.heap.size + 1) (by omega) (by omega) (by omega), heap_setCell_other _ g _ _ _ (by omega), he.block (w.heap.size + 1) s5]
    exact h5

theorem newCells {w w6 : World} (h : Ext (w.alloc (.cells #[.int .i64 0, .int .i64 0, .int .i64 0, .int .i64 0] 95)).drew w6) :
    w6.cell? ⟨w.heap.size, 0, none⟩ = some (.int .i64 0) ∧ w6.cell? ⟨w.heap.size, 1, none⟩ = some (.int .i64 0) ∧ w6.cell? ⟨w.heap.size, 2, none⟩ = some (.int .i64 0) ∧ w6.cell? ⟨w.heap.size, 3, none⟩ = some (.int .i64 0) ∧
      w6.frozen? ⟨w.heap.size, 0, none⟩ = false ∧ w6.frozen? ⟨w.heap.size, 1, none⟩ = false ∧ w6.frozen? ⟨w.heap.size, 2, none⟩ = false ∧ w6.frozen? ⟨w.heap.size, 3, none⟩ = false := by
  have hn : w6.heap[w.heap.size]? = some (.cells #[.int .i64 0, .int .i64 0, .int .i64 0, .int .i64 0] 95 (0, 0)) := Ext.new ((Ext.drew _).trans h)
  refine ⟨?_, ?_, ?_, ?_, ?_, ?_, ?_, ?_⟩
  · rw [cell_of_row _ _ _ _ _ _ hn]; rfl
  · rw [cell_of_row _ _ _ _ _ _ hn]; rfl
  · rw [cell_of_row _ _ _ _ _ _ hn]; rfl
  · rw [cell_of_row _ _ _ _ _ _ hn]; rfl
  all_goals simp [World.frozen?, hn]

theorem Win.pack {w : World} {g h : Nat} {m : Int} {k n r : Nat} {qv : Nat → Value} {ends : List Value} {Q : Nat → List Nat} (x : Win w g h m k n r qv ends Q) : Row w (some ⟨g, 1, none⟩) (packA m).toList := by
  have := Row.block x.blk 1 6
  rw [packA_eq]
  simpa [winC] using this

theorem heap4 {w w6 : World} (h : Ext (w.alloc (.cells #[.int .i64 0, .int .i64 0, .int .i64 0, .int .i64 0] 95)).drew w6) (a b c d : Value) :
    w.heap.size < ((((w6.setCell ⟨w.heap.size, 0, none⟩ a).setCell ⟨w.heap.size, 1, none⟩ b).setCell ⟨w.heap.size, 2, none⟩ c).setCell ⟨w.heap.size, 3, none⟩ d).heap.size ∧
    ((((w6.setCell ⟨w.heap.size, 0, none⟩ a).setCell ⟨w.heap.size, 1, none⟩ b).setCell ⟨w.heap.size, 2, none⟩ c).setCell ⟨w.heap.size, 3, none⟩ d).heap[w.heap.size]? = some (.cells #[a, b, c, d] 95 (0, 0)) ∧
    Ext w ((((w6.setCell ⟨w.heap.size, 0, none⟩ a).setCell ⟨w.heap.size, 1, none⟩ b).setCell ⟨w.heap.size, 2, none⟩ c).setCell ⟨w.heap.size, 3, none⟩ d) := by
  have hn : w6.heap[w.heap.size]? = some (.cells #[.int .i64 0, .int .i64 0, .int .i64 0, .int .i64 0] 95 (0, 0)) := Ext.new ((Ext.drew _).trans h)
  have h4 := heap_setCell_same _ _ 3 d _ _ _ (heap_setCell_same _ _ 2 c _ _ _ (heap_setCell_same _ _ 1 b _ _ _ (heap_setCell_same _ _ 0 a _ _ _ hn)))
  refine ⟨(Array.getElem?_eq_some_iff.1 h4).1, h4, ?_⟩
  exact ((((((Ext.alloc _ _).trans (Ext.drew _)).trans h).set (Nat.le_refl _) _ _).set (Nat.le_refl _) _ _).set (Nat.le_refl _) _ _).set (Nat.le_refl _) _ _

set_option maxRecDepth 20000 in
set_option maxHeartbeats 3200000 in
theorem choose_any (g h gp lo : Nat) (m : Int) (k n r at_ : Nat) (Q : Nat → List Nat) (F : Nat → Pl) (b : Pl) (w : World) (hm : okMode m = true) (hk : k ≤ 2) (hn : n ≤ 4096) (hw : WinE w g h m k n r Q) (hp : Plans w gp (n + 1) lo F) (hgp : gp ≠ g ∧ gp ≠ h)
    (hQ : ∀ j, j < 3 → ∀ e ∈ Q j, lo ≤ e ∧ e < n + 1 ∧ at_ < e) :
    Calls Try.prog 63 #[.pointer (some ⟨g, 0, none⟩), .slice (some ⟨gp, 0, none⟩) (n + 1) (n + 1), .int .i64 at_, .agg (plC b)] w (ChoosePost w g h m k n r at_ Q F b) := by
  have HW := Lib.hid hw
  have HP := Lib.hid hp
  have HQ := Lib.hid hQ
  have HM := Lib.hid hm
  have HGP := Lib.hid hgp
  clear hw hp hQ hm hgp
  obtain ⟨lim, hlim⟩ : ∃ lim, lim = 2 ^ cntB m k - 1 := ⟨_, rfl⟩
  have hlb : lim ≤ 65535 := by
    rw [hlim]
    have := Nat.pow_le_pow_right (n := 2) (by decide) (cnt_le m k hk)
    omega
  have HLIM := Lib.hid hlim
  clear hlim
  have hlt : g < w.heap.size ∧ h < w.heap.size := by
    obtain ⟨qv, ends, HX⟩ := HW.out
    exact ⟨(Array.getElem?_eq_some_iff.1 HX.blk).1, (Array.getElem?_eq_some_iff.1 HX.row).1⟩
  have HPL : Hid (plC b = #[.int .i64 b.bits, .int .i64 b.seg, .int .i64 b.len, .int .i64 b.mode]) := rfl
  rw [HPL.out]
  go_enter Try.func63, Try.ntmps63
  go_wp2_with fail
  go_loopw [9, 10, 11, 12, 13, 14] (fun _ _ _ _ _ i wr => ∃ j : Nat, j ≤ 3 ∧ i = .int .i64 j ∧ ∃ Qs, Hid (ChInv w g h m k n r at_ lim Q F b j wr Qs)) (fun _ _ _ _ _ i _ => 3 - (intOf i).toNat)
  case atStart =>
    refine ⟨0, by omega, rfl, Q, Lib.hid ⟨?_, fun i hi => absurd hi (by omega), fun _ _ => rfl, ?_, ?_, ?_⟩⟩
    · obtain ⟨qv, ends, HX⟩ := HW.out
      exact ⟨qv, ends, HX.ext ((Ext.alloc _ _).trans (Ext.alloc _ _))⟩
    · exact Mod.ofExt ((Ext.alloc _ _).trans (Ext.alloc _ _))
    · exact Ext.new (Ext.alloc _ _)
    · have := heap_alloc_new (w.alloc (.cells #[.int .i64 b.bits, .int .i64 b.seg, .int .i64 b.len, .int .i64 b.mode] 95)) (.cells #[.int .i64 0, .int .i64 0, .int .i64 0, .int .i64 0] 95)
      simpa [plC, zeroP] using this
  case round =>
    obtain ⟨j, hj, rfl, Qs, HI⟩ := hrel
    by_cases hlt3 : j < 3
    · obtain ⟨wo, rfl⟩ : ∃ wo, wo = wr := ⟨_, rfl⟩
      obtain ⟨⟨qv, ends, HX⟩, hpop, hsame, hmod, hb1, hb2⟩ := HI.out
      obtain ⟨off, cap, hv, h1, h2, h3, h4, h5⟩ := HX.q j hlt3
      have z := HX.cellQ j hlt3
      rw [hv] at z
      obtain ⟨L, hL⟩ : ∃ L, L = Qs j := ⟨_, rfl⟩
      obtain ⟨ln, hln⟩ : ∃ ln, ln = L.length := ⟨_, rfl⟩
      have HQ0 : Hid (QOk h n r ends j (.slice (some ⟨h, off, none⟩) ln cap) (L.drop 0)) := by
        have := HX.q j hlt3
        rw [hv, ← hL, ← hln] at this
        exact this
      rw [← hL, ← hln] at z h3
      have HL := Lib.hid hL
      have HLN := Lib.hid hln
      have HXX := Lib.hid HX
      have HMOD := Lib.hid hmod
      clear HX hpop hsame hmod hb1 hb2 hv h5 hL hln h1 h2
      have hji : (j : Int) < 3 := by omega
      go_wp2_with fail
      go_loopw [10] (fun q w2 => ∃ c off' len' cap' : Nat, len' + c = ln ∧ len' + r ≤ cap' ∧ cap' ≤ 4096 ∧ q = .slice (some ⟨h, off', none⟩) len' cap' ∧ Hid (QOk h n r ends j (.slice (some ⟨h, off', none⟩) len' cap') (L.drop c)) ∧ Hid (∀ x e, L[x]? = some e → x < c → lim < e - at_) ∧ Hid (Ext wo w2)) (fun q _ => slLen q)
      case atStart => exact ⟨0, off, ln, cap, by omega, by omega, by omega, rfl, HQ0, Lib.hid (fun x e _ hx => absurd hx (by omega)), Lib.hid (Ext.refl _)⟩
      case round =>
        obtain ⟨c, off', len', cap', hlc, hlr, hc4, rfl, HQK, HFAR, HE⟩ := hrel
        rcases Nat.eq_zero_or_pos len' with hz0 | hz0
        · have hz : len' ≤ 0 := by omega
          have hz2 : decide (0 < len') = false := by simp; omega
          have zf := (HXX.out.ext HE.out).froz (9 + j)
          have zc := (HXX.out.ext HE.out).cellQ j hlt3
          have HZ := Lib.hid hz0
          clear hz0
          go_wp2_with fail
          go_quiet (fail)
          go_wp2_with fail
          refine ⟨⟨j + 1, by omega, by rw [Int.natCast_succ], upd Qs j (L.drop c), Lib.hid ?_⟩, by simp [intOf]; omega⟩
          have hnil : L.drop c = [] := List.drop_of_length_le (by have := HLN.out; have := HZ.out; omega)
          refine HI.out.next HXX.out hlt hlt3 (HE.out.drewN nq) _ _ HQK.out ?_ (Mod.refl _ _ _) ?_
          · rw [← HI.out.2.2.1 j (Nat.le_refl _), ← HL.out]
            exact ⟨c, rfl, HFAR.out, fun e he => by have := (List.getElem?_eq_some_iff.1 he).1; have := HLN.out; have := HZ.out; omega⟩
          · rw [hnil, heap_setCell_other _ g _ _ _ (by omega), (HE.out.drewN nq).block _ (Array.getElem?_eq_some_iff.1 HI.out.2.2.2.2.1).1]
            exact HI.out.2.2.2.2.1
        · obtain ⟨e0, he0⟩ : ∃ e0, L[c]? = some e0 := ⟨_, List.getElem?_eq_getElem (by have := HLN.out; omega)⟩
          have hq0 := HQ.out j hlt3 e0 (by have := HI.out.2.2.1 j (Nat.le_refl _); rw [← this, ← HL.out]; exact List.mem_of_getElem? he0)
          have HEND : Hid (ends[off']? = some (.int .i64 e0)) := by
            obtain ⟨o2, c2, e1, _, _, _, _, e6⟩ := HQK.out
            simp only [Value.slice.injEq, Option.some.injEq, Addr.mk.injEq, true_and, and_true] at e1
            obtain ⟨rfl, _, rfl⟩ := e1
            exact e6 0 e0 (by rw [List.getElem?_drop]; exact he0)
          have zi := (HXX.out.ext HE.out).cellH off' _ HEND.out
          have z8 := (winC_1 wr g m k qv (HXX.out.ext HE.out).blk).2.2.2.2
          rw [← HLIM.out] at z8
          have HE0 := Lib.hid he0
          clear he0
          by_cases hfar : lim < e0 - at_
          · have hd : decide ((lim : Int) < (e0 : Int) - (at_ : Int)) = true := by simp; omega
            have HFR := Lib.hid hfar
            clear hfar
            go_wp2_with fail
            go_quiet (fail)
            go_wp2_with fail
            obtain ⟨o2, ho2⟩ : ∃ o2, o2 = if cap' = 1 then off' else off' + 1 := ⟨_, rfl⟩
            have hos : (if cap' = 1 then some (⟨h, off', none⟩ : Addr) else some ⟨h, off' + 1, none⟩) = some ⟨h, o2, none⟩ := by rw [ho2]; split <;> rfl
            rw [hos]
            refine ⟨⟨c + 1, o2, len' - 1, cap' - 1, by omega, by omega, by omega, rfl, Lib.hid (HQK.out.tail (by have := HLN.out; omega) o2 ho2), Lib.hid (fun x e hx hxc => ?_), Lib.hid (HE.out.drewN _)⟩, by simp [slLen]; omega⟩
            by_cases ex : x = c
            · subst ex
              rw [HE0.out] at hx
              cases hx
              exact HFR.out
            · exact HFAR.out x e hx (by omega)
          · have hd : decide ((lim : Int) < (e0 : Int) - (at_ : Int)) = false := by simp; omega
            have HFR := Lib.hid hfar
            clear hfar
            have zf := (HXX.out.ext HE.out).froz (9 + j)
            have zc := (HXX.out.ext HE.out).cellQ j hlt3
            go_wp2_with fail
            go_quiet (fail)
            go_upto_region 9 with fail
            generalize hw3 : World.setCell (wr.drewN nq) _ _ = w3
            clear zf zc zi z8
            have X3 := (HXX.out.ext (HE.out.drewN nq)).put (w2 := wr.drewN nq) rfl (HXX.out.ext (HE.out.drewN nq)).row rfl j hlt3 (.slice (some ⟨h, off', none⟩) len' cap') (L.drop c) (fun i hi _ => HXX.out.q i hi) HQK.out
            have M3 := (HMOD.out.trans (Mod.ofExt (HE.out.drewN nq))).set g (Or.inl rfl) (9 + j) (.slice (some ⟨h, off', none⟩) len' cap')
            rw [hw3] at X3 M3
            have HW3 := Lib.hid hw3
            clear hw3
            have PA3 := (HP.out.at_ e0 hq0.1 hq0.2.1).kept (M3.block gp (HP.out.at_ e0 hq0.1 hq0.2.1).lt HGP.out.1 HGP.out.2)
            have zi := X3.cellH off' _ HEND.out
            have PR := Lib.hid PA3.row
            have HX3 := Lib.hid X3
            have HM3 := Lib.hid M3
            clear PA3 X3 M3
            go_upto_region 10 with (first
              | ((with_reducible show wpList _ _ _ (⟨some 54, _, _, _, _, _⟩ :: _) _ _); refine wpList_loadAgg rfl 95 _ rfl _ Try.underlying95 rfl _ rfl _ PR.out (by kernel_rfl) ?_)
              | ((with_reducible show wpList _ _ _ (⟨none, .store 95 _ _, _, _, _, _⟩ :: _) _ _); refine wpList_storeNew rfl 95 _ _ rfl w3 _ _ rfl rfl rfl (by kernel_rfl) (by kernel_rfl) (plC_one (F e0)) ?_))
            generalize hw4 : World.alloc w3 _ = w4
            have E34 : Ext w3 w4 := by rw [← hw4]; exact Ext.alloc _ _
            have hx4 : w4.heap[w3.heap.size]? = some (.cells (plC (F e0)) 95 (0, 0)) := by rw [← hw4]; exact heap_alloc_new _ _
            clear hw4
            obtain ⟨gx, hgx⟩ : ∃ gx, gx = w3.heap.size := ⟨_, rfl⟩
            rw [← hgx] at hx4 ⊢
            have x0 : w4.cell? ⟨gx, 0, none⟩ = some (.int .i64 (F e0).bits) := by rw [cell_of_row w4 gx 0 _ _ _ hx4]; rfl
            have x1 : w4.cell? ⟨gx, 1, none⟩ = some (.int .i64 (F e0).seg) := by rw [cell_of_row w4 gx 1 _ _ _ hx4]; rfl
            have zi4 := E34.cell zi
            clear zi hgx hx4
            obtain ⟨sz, hsz⟩ : ∃ sz, sz = e0 - at_ := ⟨_, rfl⟩
            have hszi : (e0 : Int) - (at_ : Int) = (sz : Int) := by omega
            have hszb : sz ≤ 4096 := by omega
            have HSZ := Lib.hid hsz
            clear hsz hd
            have HX4 := Lib.hid (HX3.out.ext E34)
            obtain ⟨y0, _, _, y7, _⟩ := winC_1 w4 g m k _ HX4.out.blk
            have y1 := HX4.out.pack
            have hcn := cnt_le m k hk
            obtain ⟨hdr, hhdr⟩ : ∃ hdr, hdr = 4 + cntB m k := ⟨_, rfl⟩
            rw [← hhdr] at y7
            have hhb : hdr ≤ 20 := by omega
            have HHDR := Lib.hid hhdr
            clear hhdr hcn
            have fb := HP.out.bd e0
            have fs := HP.out.bs e0
            obtain ⟨fe, hfe⟩ : ∃ fe, fe = F e0 := ⟨_, rfl⟩
            rw [← hfe] at x0 x1 fb fs
            have HFE := Lib.hid hfe
            clear hfe
            have hdb : dsize m sz ≤ 8 * 4096 + 8 * 4096 := by
              unfold dsize
              split
              · split <;> (try split) <;> omega
              · split <;> omega
            obtain ⟨D, hD⟩ : ∃ D, D = dsize m sz := ⟨_, rfl⟩
            rw [← hD] at hdb
            have HD := Lib.hid hD
            clear hD
            have s1 : IntKind.i64.wrap ((hdr : Int) + (D : Int)) = (hdr : Int) + (D : Int) := IntWalk.i64_in _ (by omega)
            have s2 : IntKind.i64.wrap ((hdr : Int) + (D : Int) + (fe.bits : Int)) = (hdr : Int) + (D : Int) + (fe.bits : Int) := IntWalk.i64_in _ (by omega)
            have s3 : IntKind.i64.wrap ((fe.seg : Int) + 1) = (fe.seg : Int) + 1 := IntWalk.i64_in _ (by omega)
            have Y1 := Lib.hid y1
            clear y1
            go_upto_region 11 with fail
            obtain ⟨p1, p2, p3, p4, p5, p6⟩ : w4.cell? ⟨g, 1, none⟩ = some (.int .i64 (unitN m)) ∧ w4.cell? ⟨g, 2, none⟩ = some (.int .i64 (baseI m)) ∧ w4.cell? ⟨g, 3, none⟩ = some (.int .i64 (fullI m)) ∧ w4.cell? ⟨g, 4, none⟩ = some (.int .i64 0) ∧ w4.cell? ⟨g, 5, none⟩ = some (.int .i64 (part1 m)) ∧ w4.cell? ⟨g, 6, none⟩ = some (.int .i64 (part2 m)) := by
              refine ⟨?_, ?_, ?_, ?_, ?_, ?_⟩ <;> (rw [cell_of_row w4 g _ _ _ _ HX4.out.blk]; simp [winC])
            have HPS := fun (W : World) => Lib.hid (psize_any m sz W HM.out (by omega))
            rw [packA_eq] at HPS
            simp only [← HD.out] at HPS
            have HK : Hid (∀ W, Ext w4 W → (Ext w4 W ∧ W.cell? ⟨gx, 0, none⟩ = some (.int .i64 fe.bits) ∧ W.cell? ⟨gx, 1, none⟩ = some (.int .i64 fe.seg) ∧ W.cell? ⟨g, 0, none⟩ = some (.int .i64 m) ∧ W.cell? ⟨g, 7, none⟩ = some (.int .i64 hdr) ∧ W.cell? ⟨g, 1, none⟩ = some (.int .i64 (unitN m)) ∧ W.cell? ⟨g, 2, none⟩ = some (.int .i64 (baseI m)) ∧ W.cell? ⟨g, 3, none⟩ = some (.int .i64 (fullI m)) ∧ W.cell? ⟨g, 4, none⟩ = some (.int .i64 0) ∧ W.cell? ⟨g, 5, none⟩ = some (.int .i64 (part1 m)) ∧ W.cell? ⟨g, 6, none⟩ = some (.int .i64 (part2 m)))) :=
              fun W hW => ⟨hW, hW.cell x0, hW.cell x1, hW.cell y0, hW.cell y7, hW.cell p1, hW.cell p2, hW.cell p3, hW.cell p4, hW.cell p5, hW.cell p6⟩
            go_region_held3 (fun W => Ext w4 W ∧ W.cell? ⟨gx, 0, none⟩ = some (.int .i64 fe.bits) ∧ W.cell? ⟨gx, 1, none⟩ = some (.int .i64 fe.seg) ∧ W.cell? ⟨g, 0, none⟩ = some (.int .i64 m) ∧ W.cell? ⟨g, 7, none⟩ = some (.int .i64 hdr) ∧ W.cell? ⟨g, 1, none⟩ = some (.int .i64 (unitN m)) ∧ W.cell? ⟨g, 2, none⟩ = some (.int .i64 (baseI m)) ∧ W.cell? ⟨g, 3, none⟩ = some (.int .i64 (fullI m)) ∧ W.cell? ⟨g, 4, none⟩ = some (.int .i64 0) ∧ W.cell? ⟨g, 5, none⟩ = some (.int .i64 (part1 m)) ∧ W.cell? ⟨g, 6, none⟩ = some (.int .i64 (part2 m)))
              ((refine HK.out _ ?_; first
                | exact Ext.drew _
                | exact (Ext.drew _).trans (Ext.alloc _ _)
                | exact ((Ext.drew _).trans (Ext.alloc _ _)).trans (by assumption)
                | exact (Ext.drew _).trans (by assumption)
                | (refine Ext.trans ?_ (Ext.alloc _ _); exact (Ext.drew _).trans (by assumption))
                | exact ((((((Ext.drew _).trans (Ext.alloc _ _)).trans (by assumption)).set (Nat.le_refl _) _ _).set (Nat.le_refl _) _ _).set (Nat.le_refl _) _ _).set (Nat.le_refl _) _ _
                | (have hxx := Ext.size (by assumption : Ext w4.drew _); exact ((((((Ext.drew _).trans (by assumption)).trans (Ext.alloc _ _)).set hxx _ _).set hxx _ _).set hxx _ _).set hxx _ _)))
              (first
              | (go_at_call 49; (with_reducible refine (HPS (w4.alloc (.cells #[.int .i64 0, .int .i64 0, .int .i64 0, .int .i64 0] 95)).drew).out.mono ?_); rintro e w6 ⟨rfl, hx6⟩; (obtain ⟨n0, n1, n2, n3, f0, f1, f2, f3⟩ := newCells hx6))
              | (go_at_call 49; (with_reducible refine (HPS _).out.mono ?_); rintro e w6 ⟨rfl, hx6⟩))
            · obtain ⟨gn, hgn⟩ : ∃ gn, gn = w6.heap.size := ⟨_, rfl⟩
              have HGN : Hid (gn < (w6.alloc (.cells #[.int .i64 ((hdr : Int) + (D : Int) + (fe.bits : Int)), .int .i64 ((fe.seg : Int) + 1), .int .i64 sz, .int .i64 m] 95)).heap.size ∧ (w6.alloc (.cells #[.int .i64 ((hdr : Int) + (D : Int) + (fe.bits : Int)), .int .i64 ((fe.seg : Int) + 1), .int .i64 sz, .int .i64 m] 95)).heap[gn]? = some (.cells #[.int .i64 ((hdr : Int) + (D : Int) + (fe.bits : Int)), .int .i64 ((fe.seg : Int) + 1), .int .i64 sz, .int .i64 m] 95 (0, 0)) ∧ Ext w4 (w6.alloc (.cells #[.int .i64 ((hdr : Int) + (D : Int) + (fe.bits : Int)), .int .i64 ((fe.seg : Int) + 1), .int .i64 sz, .int .i64 m] 95))) := by
                refine ⟨by rw [hgn]; simp, by rw [hgn]; exact heap_alloc_new _ _, ((Ext.drew _).trans hx6).trans (Ext.alloc _ _)⟩
              rw [← hgn]
              generalize World.alloc w6 _ = w8 at HGN ⊢
              clear hgn
              have HB : Hid (w8.heap[w.heap.size]? = some (.cells (plC (picks m k at_ F b Qs j)) 95 (0, 0))) := by
                have q1 := HI.out.2.2.2.2.1
                have q2 := (Array.getElem?_eq_some_iff.1 q1).1
                have q3 := (HE.out.drewN nq).size
                show _ = _
                have q4 : w3.heap[w.heap.size]? = wo.heap[w.heap.size]? := by
                  rw [← HW3.out, heap_setCell_other _ g _ _ _ (by omega)]
                  exact (HE.out.drewN nq).block _ q2
                have q5 : w.heap.size < w3.heap.size := by rw [← HW3.out]; simp [World.setCell]; simp at q3; omega
                rw [(E34.trans HGN.out.2.2).block _ q5, q4]
                exact q1
              have HCC : Hid (plC (candP m k sz fe) = #[.int .i64 ((hdr : Int) + (D : Int) + (fe.bits : Int)), .int .i64 ((fe.seg : Int) + 1), .int .i64 sz, .int .i64 m]) := by
                show _ = _
                have e1 : ((segB m k sz + fe.bits : Nat) : Int) = (hdr : Int) + (D : Int) + (fe.bits : Int) := by
                  unfold segB
                  rw [HHDR.out, HD.out]
                  omega
                simp only [plC, candP, e1]
                rfl
              have HRN : Hid (Row w8 (some ⟨gn, 0, none⟩) (plC (candP m k sz fe)).toList) := by
                have q := HGN.out.2.1
                rw [← HCC.out] at q
                have q2 := Row.block q 0 4
                refine Lib.hid ?_
                simpa [plC] using q2
              have HRB : Hid (Row w8 (some ⟨w.heap.size, 0, none⟩) (plC (picks m k at_ F b Qs j)).toList) := by
                have q2 := Row.block HB.out 0 4
                refine Lib.hid ?_
                simpa [plC] using q2
              go_wp2_with (first
                | ((with_reducible show wpList _ _ _ (⟨some 83, _, _, _, _, _⟩ :: _) _ _); refine wpList_loadAgg rfl 95 _ rfl _ Try.underlying95 rfl _ rfl _ HRN.out (by kernel_rfl) ?_)
                | ((with_reducible show wpList _ _ _ (⟨some 84, _, _, _, _, _⟩ :: _) _ _); refine wpList_loadAgg rfl 95 _ rfl _ Try.underlying95 rfl _ rfl _ HRB.out (by kernel_rfl) ?_))
              refine (better_any (candP m k sz fe) (picks m k at_ F b Qs j) w8).mono ?_
              rintro e w9 ⟨rfl, hx9⟩
              have HPOP : Hid (Popped lim at_ (Q j) (L.drop c)) := by
                refine Lib.hid ?_
                rw [← HI.out.2.2.1 j (Nat.le_refl _), ← HL.out]
                exact ⟨c, rfl, HFAR.out, fun e he => by rw [HE0.out] at he; cases he; have := HFR.out; omega⟩
              have HDC : Hid (L.drop c = e0 :: L.drop (c + 1)) := by
                refine Lib.hid ?_
                obtain ⟨q1, q2⟩ := List.getElem?_eq_some_iff.1 HE0.out
                rw [List.drop_eq_getElem_cons q1, q2]
              have HPK : Hid (pickB m k at_ F (picks m k at_ F b Qs j) (L.drop c) = if (candP m k sz fe).lt (picks m k at_ F b Qs j) then candP m k sz fe else picks m k at_ F b Qs j) := by
                refine Lib.hid ?_
                rw [HDC.out, HSZ.out, HFE.out]
                rfl
              by_cases hltc : (candP m k sz fe).lt (picks m k at_ F b Qs j)
              · rw [decide_eq_true hltc]
                have HPK2 : Hid (pickB m k at_ F (picks m k at_ F b Qs j) (L.drop c) = candP m k sz fe) := by refine Lib.hid ?_; rw [HPK.out, if_pos hltc]
                have HRN9 := Lib.hid (HRN.out.ext hx9)
                have HB9 := Lib.hid ((hx9.block _ (Array.getElem?_eq_some_iff.1 HB.out).1).trans HB.out)
                have HX9 := Lib.hid hx9
                clear hltc HPK hx9
                go_wp2_with (first
                  | ((with_reducible show wpList _ _ _ (⟨some 86, _, _, _, _, _⟩ :: _) _ _); refine wpList_loadAgg rfl 95 _ rfl _ Try.underlying95 rfl _ rfl _ HRN9.out (by kernel_rfl) ?_)
                  | ((with_reducible show wpList _ _ _ (⟨none, .store 95 _ _, _, _, _, _⟩ :: _) _ _); refine wpList_storeM rfl 95 _ _ rfl w.heap.size _ rfl rfl 95 _ HB9.out (by kernel_rfl) (by kernel_rfl) (plC_one _) ?_; intro w10 H10 HM10))
                refine ⟨⟨j + 1, by omega, by rw [Int.natCast_succ], upd Qs j (L.drop c), Lib.hid ?_⟩, by simp [intOf]; omega⟩
                refine HI.out.next HXX.out hlt hlt3 (HE.out.drewN nq) _ _ HQK.out HPOP.out (by rw [HW3.out]; exact (Mod.ofExt (E34.trans (HGN.out.2.2.trans HX9.out))).trans HM10.out) ?_
                rw [HPK2.out]
                exact H10.out
              · rw [decide_eq_false hltc]
                have HPK2 : Hid (pickB m k at_ F (picks m k at_ F b Qs j) (L.drop c) = picks m k at_ F b Qs j) := by refine Lib.hid ?_; rw [HPK.out, if_neg hltc]
                have HB9 := Lib.hid ((hx9.block _ (Array.getElem?_eq_some_iff.1 HB.out).1).trans HB.out)
                have HX9 := Lib.hid hx9
                clear hltc HPK hx9
                go_wp2_with fail
                refine ⟨⟨j + 1, by omega, by rw [Int.natCast_succ], upd Qs j (L.drop c), Lib.hid ?_⟩, by simp [intOf]; omega⟩
                refine HI.out.next HXX.out hlt hlt3 (HE.out.drewN nq) _ _ HQK.out HPOP.out (by rw [HW3.out]; exact Mod.ofExt (E34.trans (HGN.out.2.2.trans HX9.out))) ?_
                rw [HPK2.out]
                exact HB9.out
            · obtain ⟨gn, hgn⟩ : ∃ gn, gn = w4.heap.size := ⟨_, rfl⟩
              have HGN0 := heap4 hx6 (.int .i64 ((hdr : Int) + (D : Int) + (fe.bits : Int))) (.int .i64 ((fe.seg : Int) + 1)) (.int .i64 sz) (.int .i64 m)
              rw [← hgn] at HGN0 ⊢
              generalize World.setCell (World.setCell (World.setCell (World.setCell w6 _ _) _ _) _ _) _ _ = w8 at HGN0 ⊢
              have HGN := Lib.hid HGN0
              clear hgn HGN0
              have HB : Hid (w8.heap[w.heap.size]? = some (.cells (plC (picks m k at_ F b Qs j)) 95 (0, 0))) := by
                have q1 := HI.out.2.2.2.2.1
                have q2 := (Array.getElem?_eq_some_iff.1 q1).1
                have q3 := (HE.out.drewN nq).size
                show _ = _
                have q4 : w3.heap[w.heap.size]? = wo.heap[w.heap.size]? := by
                  rw [← HW3.out, heap_setCell_other _ g _ _ _ (by omega)]
                  exact (HE.out.drewN nq).block _ q2
                have q5 : w.heap.size < w3.heap.size := by rw [← HW3.out]; simp [World.setCell]; simp at q3; omega
                rw [(E34.trans HGN.out.2.2).block _ q5, q4]
                exact q1
              have HCC : Hid (plC (candP m k sz fe) = #[.int .i64 ((hdr : Int) + (D : Int) + (fe.bits : Int)), .int .i64 ((fe.seg : Int) + 1), .int .i64 sz, .int .i64 m]) := by
                show _ = _
                have e1 : ((segB m k sz + fe.bits : Nat) : Int) = (hdr : Int) + (D : Int) + (fe.bits : Int) := by
                  unfold segB
                  rw [HHDR.out, HD.out]
                  omega
                simp only [plC, candP, e1]
                rfl
              have HRN : Hid (Row w8 (some ⟨gn, 0, none⟩) (plC (candP m k sz fe)).toList) := by
                have q := HGN.out.2.1
                rw [← HCC.out] at q
                have q2 := Row.block q 0 4
                refine Lib.hid ?_
                simpa [plC] using q2
              have HRB : Hid (Row w8 (some ⟨w.heap.size, 0, none⟩) (plC (picks m k at_ F b Qs j)).toList) := by
                have q2 := Row.block HB.out 0 4
                refine Lib.hid ?_
                simpa [plC] using q2
              go_wp2_with (first
                | ((with_reducible show wpList _ _ _ (⟨some 83, _, _, _, _, _⟩ :: _) _ _); refine wpList_loadAgg rfl 95 _ rfl _ Try.underlying95 rfl _ rfl _ HRN.out (by kernel_rfl) ?_)
                | ((with_reducible show wpList _ _ _ (⟨some 84, _, _, _, _, _⟩ :: _) _ _); refine wpList_loadAgg rfl 95 _ rfl _ Try.underlying95 rfl _ rfl _ HRB.out (by kernel_rfl) ?_))
              refine (better_any (candP m k sz fe) (picks m k at_ F b Qs j) w8).mono ?_
              rintro e w9 ⟨rfl, hx9⟩
              have HPOP : Hid (Popped lim at_ (Q j) (L.drop c)) := by
                refine Lib.hid ?_
                rw [← HI.out.2.2.1 j (Nat.le_refl _), ← HL.out]
                exact ⟨c, rfl, HFAR.out, fun e he => by rw [HE0.out] at he; cases he; have := HFR.out; omega⟩
              have HDC : Hid (L.drop c = e0 :: L.drop (c + 1)) := by
                refine Lib.hid ?_
                obtain ⟨q1, q2⟩ := List.getElem?_eq_some_iff.1 HE0.out
                rw [List.drop_eq_getElem_cons q1, q2]
              have HPK : Hid (pickB m k at_ F (picks m k at_ F b Qs j) (L.drop c) = if (candP m k sz fe).lt (picks m k at_ F b Qs j) then candP m k sz fe else picks m k at_ F b Qs j) := by
                refine Lib.hid ?_
                rw [HDC.out, HSZ.out, HFE.out]
                rfl
              by_cases hltc : (candP m k sz fe).lt (picks m k at_ F b Qs j)
              · rw [decide_eq_true hltc]
                have HPK2 : Hid (pickB m k at_ F (picks m k at_ F b Qs j) (L.drop c) = candP m k sz fe) := by refine Lib.hid ?_; rw [HPK.out, if_pos hltc]
                have HRN9 := Lib.hid (HRN.out.ext hx9)
                have HB9 := Lib.hid ((hx9.block _ (Array.getElem?_eq_some_iff.1 HB.out).1).trans HB.out)
                have HX9 := Lib.hid hx9
                clear hltc HPK hx9
                go_wp2_with (first
                  | ((with_reducible show wpList _ _ _ (⟨some 86, _, _, _, _, _⟩ :: _) _ _); refine wpList_loadAgg rfl 95 _ rfl _ Try.underlying95 rfl _ rfl _ HRN9.out (by kernel_rfl) ?_)
                  | ((with_reducible show wpList _ _ _ (⟨none, .store 95 _ _, _, _, _, _⟩ :: _) _ _); refine wpList_storeM rfl 95 _ _ rfl w.heap.size _ rfl rfl 95 _ HB9.out (by kernel_rfl) (by kernel_rfl) (plC_one _) ?_; intro w10 H10 HM10))
                refine ⟨⟨j + 1, by omega, by rw [Int.natCast_succ], upd Qs j (L.drop c), Lib.hid ?_⟩, by simp [intOf]; omega⟩
                refine HI.out.next HXX.out hlt hlt3 (HE.out.drewN nq) _ _ HQK.out HPOP.out (by rw [HW3.out]; exact (Mod.ofExt (E34.trans (HGN.out.2.2.trans HX9.out))).trans HM10.out) ?_
                rw [HPK2.out]
                exact H10.out
              · rw [decide_eq_false hltc]
                have HPK2 : Hid (pickB m k at_ F (picks m k at_ F b Qs j) (L.drop c) = picks m k at_ F b Qs j) := by refine Lib.hid ?_; rw [HPK.out, if_neg hltc]
                have HB9 := Lib.hid ((hx9.block _ (Array.getElem?_eq_some_iff.1 HB.out).1).trans HB.out)
                have HX9 := Lib.hid hx9
                clear hltc HPK hx9
                go_wp2_with fail
                refine ⟨⟨j + 1, by omega, by rw [Int.natCast_succ], upd Qs j (L.drop c), Lib.hid ?_⟩, by simp [intOf]; omega⟩
                refine HI.out.next HXX.out hlt hlt3 (HE.out.drewN nq) _ _ HQK.out HPOP.out (by rw [HW3.out]; exact Mod.ofExt (E34.trans (HGN.out.2.2.trans HX9.out))) ?_
                rw [HPK2.out]
                exact HB9.out
    · obtain rfl : j = 3 := by omega
      obtain ⟨hwe, hpop, hsame, hmod, hb1, hb2⟩ := HI.out
      have hrow : Row wr (some ⟨w.heap.size, 0, none⟩) (plC (picks m k at_ F b Qs 3)).toList := by
        have := Row.block hb1 0 4
        simpa [plC] using this
      have HWE := Lib.hid hwe
      have HPOP := Lib.hid hpop
      have HMOD := Lib.hid hmod
      have HB2 := Lib.hid hb2
      have HROW := Lib.hid hrow
      clear hwe hpop hsame hmod hb1 hb2 hrow HI
      go_wp2_with (first
        | ((with_reducible show wpList _ _ _ (⟨some 88, _, _, _, _, _⟩ :: _) _ _); refine wpList_loadAgg rfl 95 _ rfl _ Try.underlying95 rfl _ rfl _ HROW.out (by kernel_rfl) ?_)
        | ((with_reducible show wpList _ _ _ (⟨none, .store 95 _ _, _, _, _, _⟩ :: _) _ _); refine wpList_storeM rfl 95 _ _ rfl (w.heap.size + 1) _ rfl rfl 95 _ HB2.out (by kernel_rfl) (by kernel_rfl) (plC_one _) ?_; intro w3 H3 HM3))
      refine bodyPost_ret (results_cell_row rfl _ w3 (w.heap.size + 1) 95 _ (0, 0) _ rfl H3.out Try.underlying95 rfl (by kernel_rfl)) rfl ?_
      have hM := HM3.out
      have hsz := (Array.getElem?_eq_some_iff.1 HB2.out).1
      obtain ⟨qv, ends, HX⟩ := HWE.out
      refine ⟨Qs, by rw [← HLIM.out]; exact HPOP.out, rfl, ⟨qv, ends, HX.kept (hM.block g (by omega) (by omega) (by omega)) (hM.block h (by omega) (by omega) (by omega))⟩, ?_⟩
      have m3 := HMOD.out
      exact ⟨hM.os.trans m3.os, hM.tape.trans m3.tape, hM.output.trans m3.output, Nat.le_trans m3.size hM.size, fun i hi e1 e2 => (hM.block i (by have := m3.size; omega) (by omega) (by omega)).trans (m3.block i hi e1 e2)⟩

end Go.Proofs.Ythebfpolijajgaa
