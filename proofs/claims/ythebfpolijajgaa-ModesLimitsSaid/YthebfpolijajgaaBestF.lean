/-
  The contract of modes.Best.
  Conditions: the slice's cells are those of the list.
Laws for the walk of modes.Best: tables made and stored into; the segments of the best plan.
  Conditions stand in each lemma.
-/
import Derived.Test.YthebfpolijajgaaBestD
import Derived.Test.YthebfpolijajgaaModeN
import Derived.Deep.MidRow
namespace Go.Proofs.Ythebfpolijajgaa
open Go.RowKit Go.Bs Go.Mode

/-- A pointer is read out of an array's value. -/
theorem wpList_indexPtr {P : Program} {ops : Array Oper} {rest : List Oper} {o : Oper} {a : Act} {K : Exit → Act → World → Prop} {w : World} (hg : o.guard = none) (t : TypeId) (x i : Operand) (ho : o.op = .index t x i) (n : Nat) (e e' : TypeId) (hu : P.underlying t = some (.array n e)) (hue : P.underlying e = some (.pointer e')) (hse : (P.info? e).map (·.size) = some 1)
    (cs : Array Value) (hx : a.eval x = .agg cs) (ki : IntKind) (k : Nat) (hi : a.eval i = .int ki k) (hk : k < n) (v : Value) (hv : cs[k]? = some v)
    (h : wpList P ops K rest (a.put o.dst v) w) : wpList P ops K (o :: rest) a w := by
  refine wpList_plain hg fun K hK => ?_
  unfold Oper.wp execOp
  cases hq : P.info? e with
  | none => simp [hq] at hse
  | some ie =>
    have hs : ie.size = 1 := by simpa [hq] using hse
    simp [ho, hx, hi, Instr.index, asIntOf, run_underlying hu, sizeOf, typeInfo, hq, hs, hk, part, isAgg, run_underlying hue, hv, Sem.run_bind, Result.andThen]
    exact hK _ _ h

/-- Segments are returned, with their number of bits and an error's number. -/
def RetBest (w : World) (l : List SegD) (n c : Int) (e : Ending) (w' : World) : Prop :=
  ∃ ao cap, e = .returned (.tuple #[.slice ao l.length cap, .int .i64 n, .int .i64 c]) ∧ SegsN w' w.heap.size ao l ∧ l.length ≤ cap ∧ cap ≤ 9223372036854775807 ∧ Ext w w'
theorem RetBest.nil (w w' : World) (c : Int) (h : Ext w w') : RetBest w [] 0 c (.returned (.tuple #[.slice none 0 0, .int .i64 0, .int .i64 c])) w' :=
  ⟨none, 0, rfl, SegsN.nil _ _ _, Nat.le_refl _, by decide, h⟩

/-- What Best returns. -/
def bestRes (p : List UInt8) (c : Int) : List SegD × Int × Int :=
  if c < 0 ∨ 2 < c then ([], 0, 1) else if 4096 < p.length then ([], 0, 4) else (bestL c.toNat p, ((plan c.toNat p).bits : Int), 0)

/-- The three windows, of which the first i have been brought to a place. -/
structure Wins (w : World) (G H : Nat → Nat) (k n a : Nat) (p : List UInt8) (i : Nat) (Q : Nat → Nat → List Nat) : Prop where
  win : ∀ x, x < 3 → WinE w (G x) (H x) (md x) k n (if x < i then a else a + 1) (Q x)
  inv : ∀ x, x < 3 → ∀ j, j < 3 → QInv (md x) (planAt k p) p (2 ^ cntB (md x) k - 1) (if x < i then a else a + 1) j (Q x j)
/-- The blocks are different ones. -/
structure Apart (B : Nat) (G H : Nat → Nat) (gp gw : Nat) : Prop where
  gg : ∀ x y, x < 3 → y < 3 → x ≠ y → G x ≠ G y ∧ H x ≠ H y ∧ G x ≠ H y
  gh : ∀ x, x < 3 → G x ≠ H x
  pg : ∀ x, x < 3 → gp ≠ G x ∧ gp ≠ H x ∧ gw ≠ G x ∧ gw ≠ H x
  pw : gp ≠ gw
  up : ∀ x, x < 3 → B ≤ G x ∧ B ≤ H x
  pb : B ≤ gp ∧ B ≤ gw

theorem WinE.kept {w w2 : World} {g h : Nat} {m : Int} {k n r : Nat} {Q : Nat → List Nat} (x : WinE w g h m k n r Q) (h1 : w2.heap[g]? = w.heap[g]?) (h2 : w2.heap[h]? = w.heap[h]?) : WinE w2 g h m k n r Q := by
  obtain ⟨qv, ends, X⟩ := x
  exact ⟨qv, ends, X.kept h1 h2⟩
theorem WinE.less {w : World} {g h : Nat} {m : Int} {k n r : Nat} {Q : Nat → List Nat} (x : WinE w g h m k n (r + 1) Q) : WinE w g h m k n r Q := by
  obtain ⟨qv, ends, X⟩ := x
  exact ⟨qv, ends, X.ne, X.blk, X.row, X.len, fun j hj => (X.q j hj).less⟩
theorem WinE.lt {w : World} {g h : Nat} {m : Int} {k n r : Nat} {Q : Nat → List Nat} (x : WinE w g h m k n r Q) : g < w.heap.size ∧ h < w.heap.size := by
  obtain ⟨qv, ends, X⟩ := x
  exact ⟨(Array.getElem?_eq_some_iff.1 X.blk).1, (Array.getElem?_eq_some_iff.1 X.row).1⟩
theorem WinE.mode {w : World} {g h : Nat} {m : Int} {k n r : Nat} {Q : Nat → List Nat} (x : WinE w g h m k n r Q) : w.cell? ⟨g, 0, none⟩ = some (.int .i64 m) := by
  obtain ⟨qv, ends, X⟩ := x
  exact (winC_1 w g m k qv X.blk).1

/-- The window i has been brought on; all other blocks are as they were. -/
theorem Wins.step {w w2 : World} {G H : Nat → Nat} {k n a : Nat} {p : List UInt8} {i : Nat} {Q : Nat → Nat → List Nat} {B gp gw : Nat} (x : Wins w G H k n a p i Q) (hap : Apart B G H gp gw) (hi : i < 3) (hm : Mod (G i) (H i) w w2) (Qi : Nat → List Nat)
    (hw : WinE w2 (G i) (H i) (md i) k n a Qi) (hq : ∀ j, j < 3 → QInv (md i) (planAt k p) p (2 ^ cntB (md i) k - 1) a j (Qi j)) : Wins w2 G H k n a p (i + 1) (upd Q i Qi) := by
  refine ⟨fun y hy => ?_, fun y hy j hj => ?_⟩
  · by_cases e : y = i
    · subst e
      rw [if_pos (by omega)]
      simpa [upd] using hw
    · have h1 := x.win y hy
      have h2 := hap.gg y i hy hi e
      have h3 := hap.gg i y hi hy (fun h => e h.symm)
      have h4 := h1.lt
      rw [show (if y < i + 1 then a else a + 1) = if y < i then a else a + 1 by by_cases h : y < i; (rw [if_pos h, if_pos (by omega)]); (rw [if_neg h, if_neg (by omega)])]
      simp only [upd, if_neg e]
      exact h1.kept (hm.block _ h4.1 h2.1 h2.2.2) (hm.block _ h4.2 (fun e2 => h3.2.2 e2.symm) h2.2.1)
  · by_cases e : y = i
    · subst e
      rw [if_pos (by omega)]
      simpa [upd] using hq j hj
    · rw [show (if y < i + 1 then a else a + 1) = if y < i then a else a + 1 by by_cases h : y < i; (rw [if_pos h, if_pos (by omega)]); (rw [if_neg h, if_neg (by omega)])]
      simp only [upd, if_neg e]
      exact x.inv y hy j hj
theorem Wins.kept {w w2 : World} {G H : Nat → Nat} {k n a : Nat} {p : List UInt8} {i : Nat} {Q : Nat → Nat → List Nat} (x : Wins w G H k n a p i Q) (h : ∀ y, y < 3 → w2.heap[G y]? = w.heap[G y]? ∧ w2.heap[H y]? = w.heap[H y]?) : Wins w2 G H k n a p i Q :=
  ⟨fun y hy => (x.win y hy).kept (h y hy).1 (h y hy).2, x.inv⟩
theorem Wins.next {w : World} {G H : Nat → Nat} {k n a : Nat} {p : List UInt8} {Q : Nat → Nat → List Nat} (x : Wins w G H k n (a + 1) p 3 Q) : Wins w G H k n a p 0 Q :=
  ⟨fun y hy => by have := x.win y hy; rw [if_pos hy] at this; rw [if_neg (by omega)]; exact this, fun y hy j hj => by have := x.inv y hy j hj; rw [if_pos hy] at this; rw [if_neg (by omega)]; exact this⟩


theorem Try.infoPlan : (Try.prog.info? 95).map (fun i => (i.zero, i.size, i.bytes)) = some (some (.agg #[.int .i64 0, .int .i64 0, .int .i64 0, .int .i64 0]), 4, 32) := by kernel_rfl

theorem made_at (z : Array Value) (n i : Nat) (hi : i < n) (hz : 0 < z.size) : (madeCells z n)[i]? = some (z[i % z.size]'(Nat.mod_lt _ hz)) := by
  unfold madeCells
  rw [Array.getElem?_map, Array.getElem?_range, if_pos hi]
  have : i % z.size < z.size := Nat.mod_lt _ hz
  simp [this]

/-- 'make([]plan, n)'. -/
theorem wpList_makeTab {P : Program} {ops : Array Oper} {rest : List Oper} {o : Oper} {a : Act} {Q : Exit → Act → World → Prop} {w : World} (hgd : o.guard = none) (l c : Operand) (t : TypeId) (ho : o.op = Op.makeSlice t l c)
    (e : TypeId) (z : Value) (size bytes : Nat) (hI : (P.info? e).map (fun i => (i.zero, i.size, i.bytes)) = some (some z, size, bytes))
    (ht : P.underlying t = some (.slice e)) (kl kc : IntKind) (n m : Nat) (hl : a.eval l = .int kl n) (hc : a.eval c = .int kc m) (hnm : n ≤ m) (hm : bytes * m ≤ 281474976710656) (hm' : m ≤ 9223372036854775807)
    (h : ∀ w', Hid (w'.heap[w.heap.size]? = some (.cells (madeCells z.cells (m * size)) e (0, 0))) → Hid (Ext w w') → wpList P ops Q rest (a.put o.dst (.slice (some ⟨w.heap.size, 0, none⟩) n m)) w') :
    wpList P ops Q (o :: rest) a w := by
  obtain ⟨i, hi, hz0, hz1, hz2⟩ := info_parts hI
  refine wpList_plain hgd fun K hK => ?_
  have hb' : (i.bytes : Int) * (m : Int) ≤ 281474976710656 := by
    have h : ((i.bytes * m : Nat) : Int) ≤ 281474976710656 := by rw [hz2]; omega
    rwa [Int.natCast_mul] at h
  have hrun := run_make (P := P) w t e i z ht hi hz0 kl kc n m (by omega) (by omega) hb' (by omega)
  simp only [Int.toNat_natCast, hz1] at hrun
  unfold Oper.wp
  simp [execOp, ho, hl, hc, hrun, Result.andThen]
  exact hK _ _ (h _ (heap_alloc_new _ _) (Ext.alloc _ _))

/-- 'make([]Segment, 0, c)'. -/
theorem wpList_makeSegs {P : Program} {ops : Array Oper} {rest : List Oper} {o : Oper} {a : Act} {Q : Exit → Act → World → Prop} {w : World} (hgd : o.guard = none) (l c : Operand) (t : TypeId) (ho : o.op = Op.makeSlice t l c)
    (B : Nat) (hB : B ≤ w.heap.size) (e : TypeId) (z : Value) (size bytes : Nat) (hI : (P.info? e).map (fun i => (i.zero, i.size, i.bytes)) = some (some z, size, bytes))
    (ht : P.underlying t = some (.slice e)) (kl kc : IntKind) (m : Nat) (hl : a.eval l = .int kl 0) (hc : a.eval c = .int kc m) (hm : bytes * m ≤ 281474976710656) (hm' : m ≤ 9223372036854775807)
    (h : ∀ w', w'.ownsRow B e size (.slice (some ⟨w.heap.size, 0, none⟩) 0 m) 0 [] → Hid (Ext w w') → wpList P ops Q rest (a.put o.dst (.slice (some ⟨w.heap.size, 0, none⟩) 0 m)) w') :
    wpList P ops Q (o :: rest) a w := by
  refine wpList_makeTab hgd l c t ho e z size bytes hI ht kl kc 0 m (by simpa using hl) hc (by omega) hm hm' ?_
  intro w' H1 H2
  exact h w' ⟨by simp, Or.inr ⟨w.heap.size, m, madeCells z.cells (m * size), rfl, hB, H1.out, Nat.zero_le _, by unfold maxLen; omega, by simp [size_madeCells], by simp⟩⟩ H2

theorem Tab.made {w : World} {gp n : Nat} {F : Nat → Pl} (h : w.heap[gp]? = some (.cells (madeCells (Value.agg #[.int .i64 0, .int .i64 0, .int .i64 0, .int .i64 0]).cells ((n + 1) * 4)) 95 (0, 0))) (hF : F n = zeroP) : Tab w gp n n F := by
  refine ⟨⟨_, h⟩, fun e he => ?_⟩
  rw [show (if n ≤ e then F e else zeroP) = zeroP by split; (rw [show e = n by omega]; exact hF); rfl]
  have hz : (Value.agg #[.int .i64 0, .int .i64 0, .int .i64 0, .int .i64 0]).cells = #[.int .i64 0, .int .i64 0, .int .i64 0, .int .i64 0] := rfl
  rw [hz] at h
  have key : ∀ i, i < 4 → w.cell? ⟨gp, e * 4 + i, none⟩ = some (.int .i64 0) := by
    intro i hi
    rw [cell_of_row w gp _ _ _ _ h, made_at _ _ _ (by omega) (by simp)]
    have : ∀ x (hx : x < 4), (#[Value.int .i64 0, .int .i64 0, .int .i64 0, .int .i64 0] : Array Value)[x]'(by simpa using hx) = .int .i64 0 := by
      intro x hx
      match x, hx with
      | 0, _ => rfl
      | 1, _ => rfl
      | 2, _ => rfl
      | 3, _ => rfl
    rw [this]
    exact Nat.mod_lt _ (by decide)
  exact ⟨key 0 (by omega), key 1 (by omega), key 2 (by omega), key 3 (by omega)⟩

theorem Tab.there {w : World} {gp n a : Nat} {F : Nat → Pl} (x : Tab w gp n a F) (e : Nat) (he : e < n + 1) : w.there gp (e * 4) 4 := by
  obtain ⟨cs, hcs⟩ := x.blk
  have h := x.at_ e he
  intro j hj
  refine ⟨?_, by simp [World.frozen?, hcs]⟩
  match j, hj with
  | 0, _ => rw [Nat.add_zero, h.c0]; rfl
  | 1, _ => rw [h.c1]; rfl
  | 2, _ => rw [h.c2]; rfl
  | 3, _ => rw [h.c3]; rfl

/-- All blocks but one are as they were. -/
theorem setCells_mod (w : World) (g : Nat) : ∀ (vs : List Value) (o : Nat) (w0 : World), Mod g g w0 w → Mod g g w0 (w.setCells g o vs) := by
  intro vs
  induction vs generalizing w with
  | nil => intro o w0 h; exact h
  | cons v vs ih => intro o w0 h; exact ih _ _ _ (h.set g (Or.inl rfl) _ _)

/-- A plan is stored into the table. -/
theorem wpList_storePlan {P : Program} {ops : Array Oper} {rest : List Oper} {o : Oper} {a : Act} {K : Exit → Act → World → Prop} {w : World} (hg : o.guard = none) (t : TypeId) (x y : Operand) (ho : o.op = .store t x y) (gp n at_ : Nat) (F : Nat → Pl)
    (hx : a.eval x = .pointer (some ⟨gp, at_ * 4, none⟩)) (hy : a.eval y = .agg (plC (F at_))) (hi : (P.info? t).map (·.size) = some 4) (hat : at_ < n + 1) (ht : Tab w gp n (at_ + 1) F)
    (hK : ∀ w', Hid (Tab w' gp n at_ F) → Hid (Mod gp gp w w') → wpList P ops K rest (a.put o.dst undef) w') : wpList P ops K (o :: rest) a w := by
  refine wpList_store_mid hg t x y ho gp (at_ * 4) _ hx hy (ht.there at_ hat) (by rw [hi]; rfl) (plC_one _) ?_
  exact hK _ (ht.store hat) (setCells_mod w gp _ _ _ (Mod.refl _ _ _))

theorem Tab.row {w : World} {gp n a : Nat} {F : Nat → Pl} (x : Tab w gp n a F) (e : Nat) (h1 : a ≤ e) (h2 : e < n + 1) : PlanAt w gp e (F e) := by
  have := x.at_ e h2
  rwa [if_pos h1] at this

theorem bestF_more (k : Nat) : ∀ (f g : Nat) (q : List UInt8), q.length ≤ f → q.length ≤ g → bestF k f q = bestF k g q := by
  intro f
  induction f with
  | zero =>
    intro g q h1 _
    obtain rfl : q = [] := List.eq_nil_of_length_eq_zero (by omega)
    cases g <;> simp [bestF]
  | succ f ih =>
    intro g q h1 h2
    by_cases hq : q = []
    · subst hq
      cases g <;> simp [bestF]
    · have hp : 0 < q.length := List.length_pos_iff.2 hq
      obtain ⟨g, rfl⟩ : ∃ g', g = g' + 1 := ⟨g - 1, by omega⟩
      have hl := (plan_bd k q.length q rfl).2.2.2.2.2 hp
      simp only [bestF, if_neg hq]
      rw [ih g (q.drop (plan k q).len) (by simp; omega) (by simp; omega)]
theorem bestL_cons (k : Nat) (q : List UInt8) (h : q ≠ []) : bestL k q = ((plan k q).mode, q.take (plan k q).len) :: bestL k (q.drop (plan k q).len) := by
  have hp : 0 < q.length := List.length_pos_iff.2 h
  have hl := (plan_bd k q.length q rfl).2.2.2.2.2 hp
  unfold bestL
  obtain ⟨f, hf⟩ : ∃ f, q.length = f + 1 := ⟨q.length - 1, by omega⟩
  rw [hf]
  simp only [bestF, if_neg h]
  rw [bestF_more k f _ (q.drop (plan k q).len) (by simp; omega) (Nat.le_refl _)]
theorem bestL_nil (k : Nat) : bestL k [] = [] := rfl

/-- The best segments number at most the bytes. -/
theorem bestL_len (k : Nat) : ∀ (n : Nat) (q : List UInt8), q.length ≤ n → (bestL k q).length ≤ q.length := by
  intro n
  induction n with
  | zero =>
    intro q h
    obtain rfl : q = [] := List.eq_nil_of_length_eq_zero (by omega)
    simp [bestL_nil]
  | succ n ih =>
    intro q h
    by_cases hq : q = []
    · subst hq; simp [bestL_nil]
    · have hp : 0 < q.length := List.length_pos_iff.2 hq
      have hl := (plan_bd k q.length q rfl).2.2.2.2.2 hp
      rw [bestL_cons k q hq]
      have := ih (q.drop (plan k q).len) (by simp; omega)
      simp at this ⊢
      omega

theorem candJ_none {m : Int} {F : Nat → Pl} {p : List UInt8} {k a j : Nat} {d : Pl} (ha : a < p.length) (hf : fitsB m p[a] = false) : ¬ CandJ m F p k a j d := by
  rintro ⟨e, h1, _⟩
  have := h1.2.2 a p[a] (Nat.le_refl _) h1.1 (List.getElem?_eq_getElem ha)
  rw [hf] at this
  cases this

theorem candJ_unit {m : Int} {F : Nat → Pl} {p : List UInt8} {k a j : Nat} {d : Pl} (h : CandJ m F p k a j d) : j < 3 := by
  obtain ⟨e, _, rfl, _⟩ := h
  have := Nat.mod_lt e (unit_pos m)
  have := unit_le m
  omega

end Go.Proofs.Ythebfpolijajgaa
