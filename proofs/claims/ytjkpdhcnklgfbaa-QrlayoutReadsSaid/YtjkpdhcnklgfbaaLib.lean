/-
  Small laws for walks over slices: a slice's cells as a list ('Row'), what stays as it was ('Ext'), and laws at the operations make, append, copy, slice.
  No condition; used by the other texts of the claim.
-/
import Derived.WalkKit
import Derived.WalkSpells
import Derived.WalkLawsBesides
import Derived.Laws.AppendOwnNone
import Derived.Laws.CopyOwn
import Derived.Lib.Hide
import Derived.Laws.BytesArg
namespace Go.Bs
open Go Go.RowKit

/-- The cells from the address on are those of the list (no address: the list is empty). -/
def Row (w : World) (ao : Option Addr) (cs : List Value) : Prop :=
  ∀ (i : Nat) (v : Value), cs[i]? = some v → ∃ a, ao = some a ∧ w.cell? (a.add i) = some v

theorem Row.at {w : World} {ao : Option Addr} {cs : List Value} (h : Row w ao cs) {i : Nat} {v : Value} (hi : cs[i]? = some v) :
    ∃ a, ao = some a ∧ w.cell? (a.add i) = some v := h i v hi

theorem Row.nil (w : World) (ao : Option Addr) : Row w ao [] := by intro i v h; simp at h

/-- Nothing that lay in w has changed in w'. -/
def Ext (w w' : World) : Prop := Below w.heap.size w w'

theorem Ext.refl (w : World) : Ext w w := Below.refl _ _
theorem Ext.size {w w' : World} (h : Ext w w') : w.heap.size ≤ w'.heap.size := Below.size h
theorem Ext.trans {a b c : World} (h : Ext a b) (k : Ext b c) : Ext a c := Below.trans h (Below.mono k h.size)
theorem Ext.below {B : Nat} {a b c : World} (h : Below B a b) (hB : B ≤ b.heap.size) (k : Ext b c) : Below B a c := h.trans (Below.mono k hB)
theorem Ext.alloc (w : World) (o : Obj) : Ext w (w.alloc o) := (Below.refl _ _).alloc (Nat.le_refl _) o
theorem Ext.drew (w : World) : Ext w w.drew := (Below.refl _ _).drew
theorem Ext.drewN {a w : World} (h : Ext a w) (n : Nat) : Ext a (w.drewN n) := below_drewN h n
theorem Ext.cell {w w' : World} (h : Ext w w') {a : Addr} {v : Value} (hc : w.cell? a = some v) : w'.cell? a = some v :=
  (Below.cell h (World.block_lt_of_cell? w a hc)).trans hc

theorem Row.ext {w w' : World} {ao : Option Addr} {cs : List Value} (h : Row w ao cs) (hb : Ext w w') : Row w' ao cs := by
  intro i v hi
  obtain ⟨a, ha, hc⟩ := h i v hi
  exact ⟨a, ha, hb.cell hc⟩

theorem Row.kept {w w' : World} {ao : Option Addr} {cs : List Value} {g : Nat} (h : Row w ao cs) (hg : w.grownBy w' (some g)) (hne : ∀ a, ao = some a → a.block ≠ g) : Row w' ao cs := by
  intro i v hi
  obtain ⟨a, ha, hc⟩ := h i v hi
  refine ⟨a, ha, hg.cell hc ?_⟩
  intro e
  apply hne a ha
  have : (a.add i).block = a.block := by unfold Addr.add; split <;> rfl
  rw [this] at e
  exact Option.some.inj e

theorem add_add (a : Addr) (i j : Nat) : (a.add i).add j = a.add (i + j) := by
  unfold Addr.add
  by_cases hi : i = 0 <;> by_cases hj : j = 0 <;> simp [hi, hj, Nat.add_assoc]

/-- A part of a row that is cut out by 'x[lo:hi]'. -/
theorem Row.sliced {w : World} {ao : Option Addr} {cs : List Value} (h : Row w ao cs) (lo n m s : Nat) (hs : s = 1) :
    Row w (if m = lo then ao else ao.map (·.add (lo * s))) (if m = lo then [] else (cs.drop lo).take n) := by
  subst hs
  split
  · exact Row.nil _ _
  · intro i v hi
    rw [List.getElem?_take] at hi
    split at hi
    · rw [List.getElem?_drop] at hi
      obtain ⟨a, rfl, hc⟩ := h _ v hi
      exact ⟨_, rfl, by rw [add_add]; simpa using hc⟩
    · cases hi

theorem Row.cut {w : World} {ao : Option Addr} {cs : List Value} (h : Row w ao cs) (lo n : Nat) {ao' : Option Addr}
    (ha : 0 < n → lo < cs.length → ao' = ao.map (·.add lo)) : Row w ao' ((cs.drop lo).take n) := by
  intro i v hi
  rw [List.getElem?_take] at hi
  split at hi
  · rw [List.getElem?_drop] at hi
    obtain ⟨a, rfl, hc⟩ := h _ v hi
    have := (List.getElem?_eq_some_iff.1 hi).1
    rw [ha (by omega) (by omega)]
    exact ⟨_, rfl, by rw [add_add]; exact hc⟩
  · cases hi

theorem int_eq {k : IntKind} {a b : Int} (h : a = b) : Value.int k a = Value.int k b := by rw [h]
theorem ret_int {k : IntKind} {a b : Int} (h : a = b) : Ending.returned (.int k a) = .returned (.int k b) := by rw [h]

/-- Bools, numbers and bytes as cells. -/
def bools (l : List Bool) : List Value := l.map Value.bool
def ints (l : List Int) : List Value := l.map (Value.int .i64)
def byts (l : List UInt8) : List Value := l.map fun b => Value.int .u8 b.toNat

theorem bools_at (l : List Bool) (i : Nat) (h : i < l.length) : (bools l)[i]? = some (.bool l[i]) := by simp [bools, h]
theorem ints_at (l : List Int) (i : Nat) (h : i < l.length) : (ints l)[i]? = some (.int .i64 l[i]) := by simp [ints, h]
theorem byts_at (l : List UInt8) (i : Nat) (h : i < l.length) : (byts l)[i]? = some (.int .u8 l[i].toNat) := by simp [byts, h]
theorem length_bools (l : List Bool) : (bools l).length = l.length := by simp [bools]
theorem length_ints (l : List Int) : (ints l).length = l.length := by simp [ints]
theorem length_byts (l : List UInt8) : (byts l).length = l.length := by simp [byts]
theorem bools_append (l m : List Bool) : bools (l ++ m) = bools l ++ bools m := by simp [bools]
theorem ints_append (l m : List Int) : ints (l ++ m) = ints l ++ ints m := by simp [ints]
theorem byts_append (l m : List UInt8) : byts (l ++ m) = byts l ++ byts m := by simp [byts]
theorem bools_one (b : Bool) : bools [b] = [.bool b] := rfl
theorem ints_one (b : Int) : ints [b] = [.int .i64 b] := rfl
theorem bools_oneCell (l : List Bool) : ∀ u ∈ bools l, u.oneCell' = true := by
  intro u hu; obtain ⟨_, _, rfl⟩ := List.mem_map.1 hu; rfl
theorem ints_oneCell' (l : List Int) : ∀ u ∈ ints l, u.oneCell' = true := by
  intro u hu; obtain ⟨_, _, rfl⟩ := List.mem_map.1 hu; rfl
theorem byts_oneCell (l : List UInt8) : ∀ u ∈ byts l, u.oneCell' = true := by
  intro u hu; obtain ⟨_, _, rfl⟩ := List.mem_map.1 hu; rfl

theorem bools_cut (l : List Bool) (lo n : Nat) : bools ((l.drop lo).take n) = ((bools l).drop lo).take n := by simp [bools, List.map_take, List.map_drop]
theorem ints_cut (l : List Int) (lo n : Nat) : ints ((l.drop lo).take n) = ((ints l).drop lo).take n := by simp [ints, List.map_take, List.map_drop]
theorem byts_cut (l : List UInt8) (lo n : Nat) : byts ((l.drop lo).take n) = ((byts l).drop lo).take n := by simp [byts, List.map_take, List.map_drop]

/-- What is owned, as a row. -/
theorem own_row {w : World} {B : Nat} {e : TypeId} {v : Value} {n : Nat} {xs : List Value} (h : w.ownsRow B e 1 v n xs) :
    ∃ ao cap, v = .slice ao n cap ∧ n ≤ cap ∧ cap ≤ maxLen ∧ xs.length = n ∧ Row w ao xs := by
  have hlen := h.1
  rw [Nat.mul_one] at hlen
  rcases h.2 with ⟨rfl, rfl⟩ | ⟨g, cap, cur, rfl, hb, hg, hnc, hcm, hcs, htake⟩
  · obtain rfl := List.eq_nil_of_length_eq_zero hlen
    exact ⟨none, 0, rfl, Nat.le_refl _, Nat.zero_le _, rfl, Row.nil _ _⟩
  · refine ⟨some ⟨g, 0, none⟩, cap, rfl, hnc, hcm, hlen, fun i u hi => ⟨_, rfl, ?_⟩⟩
    exact h.cells (g := g) rfl i u hi

/-- A row that is being filled: the first k cells are there, the others are still zero. -/
def filled (L : List Value) (z : Value) (k : Nat) : List Value := L.take k ++ List.replicate (L.length - k) z
theorem filled_zero (L : List Value) (z : Value) : filled L z 0 = List.replicate L.length z := by simp [filled]
theorem filled_all (L : List Value) (z : Value) (k : Nat) (h : L.length ≤ k) : filled L z k = L := by
  unfold filled; rw [List.take_of_length_le h, Nat.sub_eq_zero_of_le h]; simp
theorem filled_set (L : List Value) (z v : Value) (k : Nat) (h : L[k]? = some v) : (filled L z k).set k v = filled L z (k + 1) := by
  obtain ⟨hk, hv⟩ := List.getElem?_eq_some_iff.1 h
  unfold filled
  have hl : (L.take k).length = k := by simp; omega
  rw [List.set_append, if_neg (by rw [hl]; omega), hl, Nat.sub_self]
  obtain ⟨m, hm⟩ : ∃ m, L.length - k = m + 1 := ⟨L.length - k - 1, by omega⟩
  rw [hm, List.replicate_succ, List.set_cons_zero, List.take_succ_eq_append_getElem hk, hv, List.append_assoc, show L.length - (k + 1) = m by omega]
  rfl
theorem filled_at (L : List Value) (z : Value) (k : Nat) (h : k < L.length) : (filled L z k)[k]? = some z := by
  unfold filled
  have hl : (L.take k).length = k := by simp; omega
  rw [List.getElem?_append_right (by rw [hl]; omega), hl, Nat.sub_self, List.getElem?_replicate, if_pos (by omega)]
theorem length_filled (L : List Value) (z : Value) (k : Nat) (h : k ≤ L.length) : (filled L z k).length = L.length := by simp [filled]; omega

theorem own_cell {w : World} {B : Nat} {e : TypeId} {g n cap : Nat} {xs : List Value} (h : w.ownsRow B e 1 (.slice (some ⟨g, 0, none⟩) n cap) n xs) (k : Nat) (v : Value) (hk : xs[k]? = some v) :
    w.cell? ⟨g, k, none⟩ = some v ∧ w.frozen? ⟨g, k, none⟩ = false := by
  have hl := h.1
  have := (List.getElem?_eq_some_iff.1 hk).1
  exact ⟨by rw [h.cellAt k (by omega), hk], h.frozenAt k⟩

theorem loadCells_row {P : Program} {w : World} {a : Addr} {cs : List Value} (h : Row w (some a) cs) : (loadCells a cs.length).run P w = .ok cs.toArray w :=
  run_loadCells_list (P := P) w a cs fun j v hj => by
    obtain ⟨a', ha, hc⟩ := h j v hj
    cases ha
    exact hc

theorem run_toString {P : Program} {w : World} {src dst e : TypeId} (hs : P.underlying src = some (.slice e)) (he : P.underlying e = some (.int .u8)) (hd : P.underlying dst = some .string)
    {ao : Option Addr} {m c : Nat} {l : List UInt8} (hr : Row w ao (byts l)) (hm : l.length = m) : (convert src dst (.slice ao m c)).run P w = .ok (.string ⟨l.toArray⟩) w := by
  cases ao with
  | none =>
    have hl : l = [] := by
      cases l with
      | nil => rfl
      | cons y ys => obtain ⟨a', ha, _⟩ := hr 0 (.int .u8 y.toNat) rfl; cases ha
    subst hl
    simp at hm
    subst hm
    exact run_convert_bytes_nil w src e hs he 0 c dst hd
  | some a =>
    have e1 : byts l = (l.map fun b => ((b.toNat : Nat) : Int)).map (Value.int .u8) := by simp [byts]
    have h1 := loadCells_row (P := P) hr
    rw [length_byts, hm, e1] at h1
    rw [run_convert_bytes_string w src dst e _ m c hs he hd, run_bytesToString w _ m c _ h1, foldl_push_bytes]
    have e2 : List.map ((fun n : Int => UInt8.ofNat n.toNat) ∘ fun b : UInt8 => ((b.toNat : Nat) : Int)) l = l := by
      conv => rhs; rw [← List.map_id l]
      exact List.map_congr_left fun b _ => by simp
    simp [ByteArray.empty, ByteArray.emptyWithCapacity]
    show [] ++ _ = _
    rw [List.nil_append]
    exact e2

section laws
variable {P : Program} {ops : Array Oper} {rest : List Oper} {o : Oper} {a : Act} {Q : Exit → Act → World → Prop}

/-- 'out = append(out, x)': x has been laid in a block of its own; out is nil or the call's own. -/
theorem wpList_push {ws w0 : World} (hgd : o.guard = none) (s x : Operand) (t : TypeId)
    (ho : o.op = .call { callee := .builtin .append, args := #[s, x], argTypes := #[t, t] })
    (B : Nat) (e : TypeId) (z : Value) (bytes : Nat) (hI : (P.info? e).map (fun i => (i.zero, i.size, i.bytes)) = some (some z, 1, bytes)) (hz : z.cells.size = 1)
    (ht : P.underlying t = some (.slice e)) (v : Value) (hs : a.eval s = v) (n : Nat) (xs : List Value) (hown : w0.ownsRow B e 1 v n xs) (u : Value)
    (hx : a.eval x = .slice (some ⟨w0.heap.size, 0, none⟩) 1 1) (hu : u.oneCell' = true) (hn : (n + 1) * bytes ≤ 140737488355328) (hn' : n + 1 ≤ 9223372036854775807)
    (hb : Below B ws w0) (hB : B ≤ w0.heap.size)
    (h : ∀ v' w', w'.ownsRow B e 1 v' (n + 1) (xs ++ [u]) → Below B ws w' → w0.grownBy w' v.ownBlock → wpList P ops Q rest (a.put o.dst v') w') :
    wpList P ops Q (o :: rest) a (w0.alloc (.cells #[u] e)) := by
  obtain ⟨i, hi, hz0, hz1, hz2⟩ := info_parts hI
  refine wpList_append_own _ hgd s x t ho B e i z 1 bytes ht hi hz0 hz1 hz2 hz (by decide) v n xs hs (hown.alloc _) ⟨w0.heap.size, 0, none⟩ 1 1 [u] hx rfl ?_ ?_ ?_ hn ?_ ?_
  · intro j u' hj
    match j, hj with
    | 0, hj => simp at hj; subst hj; simp [Addr.add]
  · intro u' hu'; simp at hu'; subst hu'; exact hu
  · unfold maxLen; omega
  · simp; omega
  · intro v' w' h1 h2 _
    have hg := (World.grownBy_alloc w0 (.cells #[u] e) v.ownBlock)
    have h3 : w0.grownBy w' v.ownBlock := ⟨h2.os.trans hg.os, h2.tape.trans hg.tape, h2.output.trans hg.output, Nat.le_trans hg.size h2.size,
      fun k hk hne => (h2.block k (Nat.lt_of_lt_of_le hk hg.size) hne).trans (hg.block k hk hne)⟩
    exact h v' w' h1 (hb.grown h3 hB (fun k hk => (hown.lt k hk).1)) h3

/-- 'out = append(out, src...)': src a row (nil too). -/
theorem wpList_pushAll {ws w : World} (hgd : o.guard = none) (s x : Operand) (t : TypeId)
    (ho : o.op = .call { callee := .builtin .append, args := #[s, x], argTypes := #[t, t] })
    (B : Nat) (e : TypeId) (z : Value) (bytes : Nat) (hI : (P.info? e).map (fun i => (i.zero, i.size, i.bytes)) = some (some z, 1, bytes)) (hz : z.cells.size = 1)
    (ht : P.underlying t = some (.slice e)) (v : Value) (hs : a.eval s = v) (n : Nat) (xs : List Value) (hown : w.ownsRow B e 1 v n xs)
    (ao : Option Addr) (m c : Nat) (hx : a.eval x = .slice ao m c) (news : List Value) (hrow : Row w ao news) (hm : news.length = m) (hnone : ao = none → c = 0) (hu : ∀ u ∈ news, u.oneCell' = true)
    (hn : (n + m) * bytes ≤ 140737488355328) (hn' : n + m ≤ 9223372036854775807) (hb : Below B ws w) (hB : B ≤ w.heap.size)
    (h : ∀ v' w', w'.ownsRow B e 1 v' (n + m) (xs ++ news) → Below B ws w' → w.grownBy w' v.ownBlock → wpList P ops Q rest (a.put o.dst v') w') :
    wpList P ops Q (o :: rest) a w := by
  obtain ⟨i, hi, hz0, hz1, hz2⟩ := info_parts hI
  cases ao with
  | none =>
    have hnil : news = [] := by
      cases news with
      | nil => rfl
      | cons y ys => obtain ⟨a', ha, _⟩ := hrow 0 y rfl; cases ha
    subst hnil
    obtain rfl := hnone rfl
    simp at hm
    subst hm
    refine wpList_plain hgd fun K hK => ?_
    have hrun := run_append_owned_none (P := P) w B t o.type e i 1 ht hi v n xs hown
    unfold Oper.wp
    simp [execOp, ho, resolve, invoke, builtin, hs, hx, hrun, Result.andThen]
    exact hK _ _ (h v w (by simpa using hown) hb (World.grownBy.refl _ _))
  | some ad =>
    refine wpList_append_own _ hgd s x t ho B e i z 1 bytes ht hi hz0 hz1 hz2 hz (by decide) v n xs hs hown ad m c news hx (by simpa using hm) ?_ hu ?_ hn hB ?_
    · intro j u hj
      obtain ⟨a', ha, hc⟩ := hrow j u hj
      cases ha
      exact hc
    · unfold maxLen; omega
    · intro v' w' h1 h2 _
      exact h v' w' h1 (hb.grown h2 hB (fun k hk => (hown.lt k hk).1)) h2

/-- 'make([]T, l, c)'. -/
theorem wpList_make {ws w : World} (hgd : o.guard = none) (l c : Operand) (t : TypeId) (ho : o.op = Op.makeSlice t l c)
    (B : Nat) (e : TypeId) (z : Value) (bytes : Nat) (hI : (P.info? e).map (fun i => (i.zero, i.size, i.bytes)) = some (some z, 1, bytes)) (hz : z.cells = #[z])
    (ht : P.underlying t = some (.slice e)) (kl kc : IntKind) (L C : Int) (hl : a.eval l = .int kl L) (hc : a.eval c = .int kc C)
    (n m : Nat) (hL : L = n) (hC : C = m) (hnm : n ≤ m) (hm : bytes * m ≤ 281474976710656) (hm' : m ≤ 9223372036854775807) (hb : Below B ws w) (hB : B ≤ w.heap.size)
    (h : ∀ w', w'.ownsRow B e 1 (.slice (some ⟨w.heap.size, 0, none⟩) n m) n (List.replicate n z) → Below B ws w' → w.grownBy w' none → wpList P ops Q rest (a.put o.dst (.slice (some ⟨w.heap.size, 0, none⟩) n m)) w') :
    wpList P ops Q (o :: rest) a w := by
  obtain ⟨i, hi, hz0, hz1, hz2⟩ := info_parts hI
  subst hL hC
  refine wpList_plain hgd fun K hK => ?_
  have hb' : (i.bytes : Int) * (m : Int) ≤ 281474976710656 := by
    have h : ((i.bytes * m : Nat) : Int) ≤ 281474976710656 := by rw [hz2]; omega
    rwa [Int.natCast_mul] at h
  have hrun := run_make (P := P) w t e i z ht hi hz0 kl kc n m (by omega) (by omega) hb' (by omega)
  simp only [Int.toNat_natCast, hz1, Nat.mul_one, hz] at hrun
  unfold Oper.wp
  simp [execOp, ho, hl, hc, hrun, Result.andThen]
  refine hK _ _ (h _ ⟨by simp, Or.inr ⟨_, _, _, rfl, hB, heap_alloc_new _ _, hnm, ?_, ?_, ?_⟩⟩ (hb.alloc hB _) (World.grownBy_alloc _ _ _))
  · unfold maxLen; omega
  · simp [size_madeCells]
  · rw [toList_madeCells_one]; simp [List.take_replicate]; omega

/-- 'copy(out, src)': out the call's own, src a row that is not longer. -/
theorem wpList_copyAll {ws w : World} (hgd : o.guard = none) (d s : Operand) (t t' : TypeId)
    (ho : o.op = .call { callee := .builtin .copy, args := #[d, s], argTypes := #[t, t'] })
    (B : Nat) (e : TypeId) (z : Value) (bytes : Nat) (hI : (P.info? e).map (fun i => (i.zero, i.size, i.bytes)) = some (some z, 1, bytes))
    (ht : P.underlying t = some (.slice e)) (g n cap : Nat) (hd : a.eval d = .slice (some ⟨g, 0, none⟩) n cap) (xs : List Value) (hown : w.ownsRow B e 1 (.slice (some ⟨g, 0, none⟩) n cap) n xs)
    (ao : Option Addr) (m c : Nat) (hs : a.eval s = .slice ao m c) (news : List Value) (hrow : Row w ao news) (hm : news.length = m) (hmn : m ≤ n) (hu : ∀ u ∈ news, u.oneCell' = true)
    (hb : Below B ws w)
    (h : ∀ w', w'.ownsRow B e 1 (.slice (some ⟨g, 0, none⟩) n cap) n (news ++ xs.drop m) → Below B ws w' → wpList P ops Q rest (a.put o.dst (goInt m)) w') :
    wpList P ops Q (o :: rest) a w := by
  obtain ⟨i, hi, hz0, hz1, hz2⟩ := info_parts hI
  have hlen := hown.1
  rw [Nat.mul_one] at hlen
  rcases hown.2 with ⟨hv, _⟩ | ⟨g', cap', cur, hv, hb', hg, hnc, hcm, hcs, htake⟩
  · cases hv
  · simp only [Value.slice.injEq, Option.some.injEq, Addr.mk.injEq, and_true, true_and] at hv
    obtain ⟨rfl, rfl⟩ := hv
    rw [Nat.mul_one] at hcs htake
    have hcl : cur.toList.length = cap := by simpa using hcs
    refine wpList_copy_splice hgd d s t t' ho e ht (by rw [hi]; simp [hz1]) (some ⟨g, 0, none⟩) ao n cap m c hd hs g 0 cur.toList e (by simpa using hg) news ?_ ?_ ?_ hu B ws hb hb' ?_
    · rw [hm]; exact (Nat.min_eq_left hmn).symm
    · intro h0
      refine ⟨rfl, ?_⟩
      obtain ⟨y, hy⟩ : ∃ y, news[0]? = some y := ⟨news[0], by simp [h0]⟩
      obtain ⟨ad, rfl, _⟩ := hrow 0 y hy
      refine ⟨ad, rfl, fun j v hj => ?_⟩
      obtain ⟨ad', ha, hc⟩ := hrow j v hj
      cases ha
      exact hc
    · omega
    · intro w' hw' hbel
      rw [hm]
      refine h w' ⟨by simp; omega, Or.inr ⟨g, cap, _, rfl, hb', hw'.out, hnc, hcm, ?_, ?_⟩⟩ hbel
      · simp [splice]; omega
      · simp only [splice, List.take_zero, List.nil_append, Nat.zero_add, hm, Nat.mul_one]
        rw [List.take_append, List.take_of_length_le (by omega), hm, ← htake, List.drop_take]

/-- 'string(b)', b a row of bytes. -/
theorem wpList_toString {w : World} (hgd : o.guard = none) (src dst : TypeId) (x : Operand) (ho : o.op = .convert src dst x) {e : TypeId}
    (hs : P.underlying src = some (.slice e)) (he : P.underlying e = some (.int .u8)) (hd : P.underlying dst = some .string)
    (ao : Option Addr) (m c : Nat) (hx : a.eval x = .slice ao m c) (l : List UInt8) (hr : Row w ao (byts l)) (hm : l.length = m)
    (h : wpList P ops Q rest (a.put o.dst (.string ⟨l.toArray⟩)) w) : wpList P ops Q (o :: rest) a w := by
  refine wpList_plain hgd fun K hK => ?_
  unfold Oper.wp
  simp [execOp, ho, hx, run_toString hs he hd hr hm, Result.andThen]
  exact hK _ _ h

end laws
end Go.Bs
