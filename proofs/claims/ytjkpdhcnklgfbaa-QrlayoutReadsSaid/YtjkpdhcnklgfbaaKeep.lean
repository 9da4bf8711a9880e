/-
  What a step keeps, where a slice of the call's own may grow: 'Keep', and the law of append in its terms.
  No condition; used by the other texts of the claim.
-/
import Derived.Test.YtjkpdhcnklgfbaaLib
namespace Go.Bs
open Go Go.RowKit

/-- From w to w' all blocks but that of v are as they were; the block of v' is v's or new. -/
structure Keep (w : World) (v : Value) (w' : World) (v' : Value) : Prop where
  os : w'.os = w.os
  tape : w'.tape = w.tape
  output : w'.output = w.output
  size : w.heap.size ≤ w'.heap.size
  block : ∀ k, k < w.heap.size → v.ownBlock ≠ some k → w'.heap[k]? = w.heap[k]?
  own : ∀ k, k < w.heap.size → v.ownBlock ≠ some k → v'.ownBlock ≠ some k

theorem Keep.trans {a b c : World} {x y z : Value} (h : Keep a x b y) (k : Keep b y c z) : Keep a x c z :=
  ⟨k.os.trans h.os, k.tape.trans h.tape, k.output.trans h.output, Nat.le_trans h.size k.size,
    fun i hi hn => (k.block i (Nat.lt_of_lt_of_le hi h.size) (h.own i hi hn)).trans (h.block i hi hn),
    fun i hi hn => k.own i (Nat.lt_of_lt_of_le hi h.size) (h.own i hi hn)⟩
theorem Keep.ofExt {w w' : World} (h : Ext w w') (v : Value) : Keep w v w' v := ⟨h.os, h.tape, h.output, Below.size h, fun k hk _ => Below.block h k hk, fun _ _ h => h⟩
theorem Keep.refl (w : World) (v : Value) : Keep w v w v := Keep.ofExt (Ext.refl _) v
theorem Keep.ext {a b c : World} {x y : Value} (h : Keep a x b y) (k : Ext b c) : Keep a x c y := h.trans (Keep.ofExt k y)
theorem Keep.toExt {w w' : World} {v v' : Value} (h : Keep w v w' v') (hv : v.ownBlock = none) : Ext w w' :=
  ⟨h.os, h.tape, h.output, h.size, fun k hk => h.block k hk (by rw [hv]; simp)⟩
theorem Keep.below {w w' : World} {v v' : Value} {B : Nat} (h : Keep w v w' v') (hB : B ≤ w.heap.size) (hv : ∀ k, v.ownBlock = some k → B ≤ k) : Below B w w' :=
  ⟨h.os, h.tape, h.output, h.size, fun k hk => h.block k (by omega) (fun e => by have := hv k e; omega)⟩
theorem Keep.cell {w w' : World} {v v' : Value} (h : Keep w v w' v') {a : Addr} {u : Value} (hc : w.cell? a = some u) (hne : v.ownBlock ≠ some a.block) : w'.cell? a = some u :=
  (World.cell?_of_block (h.block a.block (World.block_lt_of_cell? w a hc) hne)).trans hc
theorem Keep.row {w w' : World} {v v' : Value} (h : Keep w v w' v') {ao : Option Addr} {cs : List Value} (hr : Row w ao cs) (hne : ∀ a, ao = some a → v.ownBlock ≠ some a.block) : Row w' ao cs := by
  intro i u hi
  obtain ⟨a, ha, hc⟩ := hr i u hi
  refine ⟨a, ha, h.cell hc ?_⟩
  have : (a.add i).block = a.block := by unfold Addr.add; split <;> rfl
  rw [this]
  exact hne a ha
theorem Keep.grown {w w' : World} {v v' : Value} (hg : w.grownBy w' v.ownBlock) (ho : ∀ k, v'.ownBlock = some k → v.ownBlock = some k ∨ w.heap.size ≤ k) : Keep w v w' v' :=
  ⟨hg.os, hg.tape, hg.output, hg.size, fun k hk hn => hg.block k hk (fun e => hn e.symm), fun k hk hn he => by rcases ho k he with h | h; exact hn h; omega⟩
/-- A slice that has just been made. -/
theorem Keep.made {w w' : World} {v : Value} (hx : Ext w w') (hv : ∀ k, v.ownBlock = some k → w.heap.size ≤ k) : Keep w (.slice none 0 0) w' v :=
  ⟨hx.os, hx.tape, hx.output, Below.size hx, fun k hk _ => Below.block hx k hk, fun k hk _ he => by have := hv k he; omega⟩
/-- Blocks that are there, and not the slice's own, at a later time. -/
theorem Keep.away {w w' : World} {v v' : Value} (h : Keep w v w' v') {k : Nat} (hk : k < w.heap.size) (hne : v.ownBlock ≠ some k) : v'.ownBlock ≠ some k := h.own k hk hne
theorem own_lt {w : World} {B : Nat} {e : TypeId} {sz : Nat} {v : Value} {n : Nat} {xs : List Value} (h : w.ownsRow B e sz v n xs) {k : Nat} (hk : w.heap.size ≤ k) : v.ownBlock ≠ some k :=
  fun e => by have := (h.lt k e).2; omega
theorem own_below {w : World} {B : Nat} {e : TypeId} {sz : Nat} {v : Value} {n : Nat} {xs : List Value} (h : w.ownsRow B e sz v n xs) {k : Nat} (hk : k < B) : v.ownBlock ≠ some k :=
  fun e => by have := (h.lt k e).1; omega
theorem own_extN {w w' : World} {B : Nat} {e : TypeId} {sz : Nat} {v : Value} {n : Nat} {xs : List Value} (h : w.ownsRow B e sz v n xs) (hx : Ext w w') : w'.ownsRow B e sz v n xs := by
  refine ⟨h.1, ?_⟩
  rcases h.2 with h0 | ⟨g, cap, cur, hv, hb, hg, hrest⟩
  · exact Or.inl h0
  · exact Or.inr ⟨g, cap, cur, hv, hb, (hx.block g (by have := (Array.getElem?_eq_some_iff.1 hg).1; exact this)).trans hg, hrest⟩
theorem own_base {w : World} {B B' : Nat} {e : TypeId} {sz : Nat} {v : Value} {n : Nat} {xs : List Value} (h : w.ownsRow B e sz v n xs) (hB : B' ≤ B) : w.ownsRow B' e sz v n xs := by
  refine ⟨h.1, ?_⟩
  rcases h.2 with h0 | ⟨g, cap, cur, hv, hb, hrest⟩
  · exact Or.inl h0
  · exact Or.inr ⟨g, cap, cur, hv, by omega, hrest⟩

theorem Ext.trans' {a b c : World} (h : Ext a b) (k : Below (a.heap.size + 1) b c) : Ext a c := Below.trans h (Below.mono k (Nat.le_succ _))
theorem Row.dropped {w : World} {ao : Option Addr} {cs : List Value} (h : Row w ao cs) (lo : Nat) {ao' : Option Addr} (ha : lo < cs.length → ao' = ao.map (·.add lo)) : Row w ao' (cs.drop lo) := by
  have := h.cut lo cs.length (ao' := ao') (fun _ h2 => ha h2)
  rwa [List.take_of_length_le (by simp)] at this
theorem byts_drop (l : List UInt8) (k : Nat) : byts (l.drop k) = (byts l).drop k := by simp [byts]
/-- The length of a slice, for a loop's measure. -/
def slLen : Value → Nat | .slice _ n _ => n | _ => 0

/-- append, with what is known of the place of the result. -/
theorem run_append_keep {P : Program} {w : World} (B : Nat) (t ty e : TypeId) (i : TypeInfo) (z : Value) (size bytes : Nat) (ht : P.underlying t = some (.slice e)) (hi : P.info? e = some i) (hz : i.zero = some z)
    (hsize : i.size = size) (hby : i.bytes = bytes) (hzs : z.cells.size = size) (hsz : 0 < size)
    (v : Value) (n : Nat) (xs : List Value) (hown : w.ownsRow B e size v n xs)
    (ao : Option Addr) (m c : Nat) (news : List Value) (hrow : Row w ao news) (hl : news.length = m * size) (hnone : ao = none → c = 0) (h1 : ∀ u ∈ news, u.oneCell' = true)
    (h63 : n + m ≤ maxLen) (hbytes : (n + m) * bytes ≤ 140737488355328) (hB : B ≤ w.heap.size) :
    ∃ v' w', (Builtin.append_ #[t, t] ty #[v, .slice ao m c]).run P w = .ok v' w' ∧ w'.ownsRow B e size v' (n + m) (xs ++ news) ∧ Keep w v w' v' := by
  cases ao with
  | none =>
    have hnil : news = [] := by
      cases news with
      | nil => rfl
      | cons y ys => obtain ⟨a', ha, _⟩ := hrow 0 y rfl; cases ha
    subst hnil
    obtain rfl := hnone rfl
    simp only [List.length_nil] at hl
    have hm0 : m = 0 := by rcases Nat.mul_eq_zero.1 hl.symm with h | h; exact h; omega
    subst hm0
    exact ⟨v, w, run_append_owned_none (P := P) w B t ty e i size ht hi v n xs hown, by simpa using hown, Keep.refl _ _⟩
  | some ad =>
    have hnews : ∀ j u, news[j]? = some u → w.cell? (ad.add j) = some u := by
      intro j u hj
      obtain ⟨a', ha, hc⟩ := hrow j u hj
      cases ha
      exact hc
    obtain ⟨v', w', hr, ho, hg, _⟩ := run_append_own (P := P) w B t ty e i z size bytes ht hi hz hsize hby hzs hsz v n xs hown ad m c news hl hnews h1 h63 hbytes hB
    refine ⟨v', w', hr, ho, Keep.grown hg ?_⟩
    rcases hown.2 with ⟨hv, hn0⟩ | ⟨g, cap, cur, rfl, hb, hgg, hnc, hcm, hcs, htake⟩
    · subst hv
      subst hn0
      have hx0 : xs = [] := List.eq_nil_of_length_eq_zero (by simpa using hown.1)
      subst hx0
      obtain ⟨v2, w2, hr2, ho2, _, _⟩ := run_append_own (P := P) w w.heap.size t ty e i z size bytes ht hi hz hsize hby hzs hsz _ 0 [] (World.ownsRow_nil w _ e size) ad m c news hl hnews h1 h63 hbytes (Nat.le_refl _)
      rw [hr] at hr2
      cases hr2
      exact fun k hk => Or.inr (ho2.lt k hk).1
    · by_cases hroom : n + m ≤ cap
      · obtain ⟨w2, hr2, _, _⟩ := run_append_fits (P := P) w B t ty e i size ht hi hsize g n cap xs hown ad m c news hl hnews h1 hroom
        rw [hr] at hr2
        cases hr2
        exact fun k hk => Or.inl hk
      · subst hsize
        subst hby
        have holds : ∀ j u, xs[j]? = some u → w.cell? ((⟨g, 0, none⟩ : Addr).add j) = some u := hown.cells (g := g) rfl
        have hsmall : n + m ≤ 9223372036854775807 := by simp only [maxLen] at h63; omega
        have hr2 := run_append_grow (P := P) w t ty e i z ht hi hz ⟨g, 0, none⟩ n cap xs hown.1 holds ad m c news hl hnews (by omega) (by omega) (growslice_fits (by omega) hbytes)
        rw [hr] at hr2
        cases hr2
        intro k hk
        simp [Value.ownBlock] at hk
        exact Or.inr (by omega)

theorem rowLit (w : World) (cs : List Value) (t : TypeId) : Row (w.alloc (.cells cs.toArray t)) (some ⟨w.heap.size, 0, none⟩) cs := by
  intro i v hi
  refine ⟨_, rfl, ?_⟩
  rw [show (⟨w.heap.size, 0, none⟩ : Addr).add i = ⟨w.heap.size, i, none⟩ by unfold Addr.add; split <;> simp_all]
  rw [cell_of_row _ w.heap.size i cs.toArray t (0, 0) (heap_alloc_new w _)]
  simpa using hi

section laws
variable {P : Program} {ops : Array Oper} {rest : List Oper} {o : Oper} {a : Act} {Q : Exit → Act → World → Prop}

/-- 'out = append(out, src...)', out nil or the call's own, src a row (nil too), elements of any size. -/
theorem wpList_app {w : World} (hgd : o.guard = none) (s x : Operand) (t : TypeId)
    (ho : o.op = .call { callee := .builtin .append, args := #[s, x], argTypes := #[t, t] })
    (B : Nat) (e : TypeId) (z : Value) (size bytes : Nat) (hI : (P.info? e).map (fun i => (i.zero, i.size, i.bytes)) = some (some z, size, bytes)) (hz : z.cells.size = size) (hsz : 0 < size)
    (ht : P.underlying t = some (.slice e)) (v : Value) (hs : a.eval s = v) (n : Nat) (xs : List Value) (hown : w.ownsRow B e size v n xs)
    (ao : Option Addr) (m c : Nat) (hx : a.eval x = .slice ao m c) (news : List Value) (hrow : Row w ao news) (hm : news.length = m * size) (hnone : ao = none → c = 0) (hu : ∀ u ∈ news, u.oneCell' = true)
    (hn : (n + m) * bytes ≤ 140737488355328) (hn' : n + m ≤ 9223372036854775807) (hB : B ≤ w.heap.size)
    (h : ∀ v' w', w'.ownsRow B e size v' (n + m) (xs ++ news) → Keep w v w' v' → wpList P ops Q rest (a.put o.dst v') w') :
    wpList P ops Q (o :: rest) a w := by
  obtain ⟨i, hi, hz0, hz1, hz2⟩ := info_parts hI
  refine wpList_plain hgd fun K hK => ?_
  obtain ⟨v', w', hr, h1, h2⟩ := run_append_keep (P := P) B t o.type e i z size bytes ht hi hz0 hz1 hz2 hz hsz v n xs hown ao m c news hrow hm hnone hu (by unfold maxLen; omega) hn hB
  unfold Oper.wp
  simp [execOp, ho, resolve, invoke, builtin, hs, hx, hr, Result.andThen]
  exact hK _ _ (h v' w' h1 h2)

/-- 'out = append(out, x)': x (one element, of any size) has been laid in a block of its own. -/
theorem wpList_pushK {w0 : World} (hgd : o.guard = none) (s x : Operand) (t : TypeId)
    (ho : o.op = .call { callee := .builtin .append, args := #[s, x], argTypes := #[t, t] })
    (B : Nat) (e : TypeId) (z : Value) (size bytes : Nat) (hI : (P.info? e).map (fun i => (i.zero, i.size, i.bytes)) = some (some z, size, bytes)) (hz : z.cells.size = size) (hsz : 0 < size)
    (ht : P.underlying t = some (.slice e)) (v : Value) (hs : a.eval s = v) (n : Nat) (xs : List Value) (hown : w0.ownsRow B e size v n xs) (us : List Value) (hul : us.length = size)
    (hx : a.eval x = .slice (some ⟨w0.heap.size, 0, none⟩) 1 1) (hu : ∀ u ∈ us, u.oneCell' = true) (hn : (n + 1) * bytes ≤ 140737488355328) (hn' : n + 1 ≤ 9223372036854775807) (hB : B ≤ w0.heap.size)
    (h : ∀ v' w', w'.ownsRow B e size v' (n + 1) (xs ++ us) → Keep w0 v w' v' → wpList P ops Q rest (a.put o.dst v') w') :
    wpList P ops Q (o :: rest) a (w0.alloc (.cells us.toArray e)) := by
  refine wpList_app hgd s x t ho B e z size bytes hI hz hsz ht v hs n xs (hown.alloc _) (some ⟨w0.heap.size, 0, none⟩) 1 1 hx us (rowLit w0 us e) (by omega) (fun h => by cases h) hu hn hn' (Nat.le_trans hB (Ext.alloc w0 (.cells us.toArray e)).size) ?_
  intro v' w' h1 h2
  exact h v' w' h1 ((Keep.ofExt (Ext.alloc w0 (.cells us.toArray e)) v).trans h2)

end laws
end Go.Bs
