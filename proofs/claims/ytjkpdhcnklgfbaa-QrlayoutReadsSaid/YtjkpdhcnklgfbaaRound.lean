/-
  A region that draws its order, within a round of a loop over an iterator (all functions let in): shown as outside of a round.
  Conditions: the region has no defer statement; its way out is never 'outgrown'.
  Steps of a region that draws its order, by laws: append, make, store of a struct.
  No condition; used by the other texts of the claim.
  Matrices: valid, clone, layoutOf, and the reference's Sound, Version: contracts.
  Conditions: bounds of the sizes.
  Matrices: layoutOf, and the reference's Version: contracts.
  Conditions: bounds of the sizes.
  Copies of matrices: contracts of qrlayout's clone and of the reference's Copy.
  Condition: at most 2^40 modules.
-/
import Derived.Test.YtjkpdhcnklgfbaaLib
import Derived.OrdersIn
import Derived.Deep.RegionHeld3
import Derived.RangeFuncCalls
import Derived.TacticsIn
import Derived.Test.YtjkpdhcnklgfbaaStore
import Derived.Test.YtjkpdhcnklgfbaaKeep
import Derived.Deep.Heap
import Derived.Test.YtjkpdhcnklgfbaaNew
namespace Go.Bs
open Go Go.RowKit

def isDefer : Op → Bool
  | .defer _ => true
  | _ => false
theorem not_defer {o : Op} (h : isDefer o = false) (c : _) : o ≠ .defer c := by
  intro e
  rw [e] at h
  cases h

theorem rowsIn_wide {n : Nat} {P : Program} {row : String} {args : Array Value} {w : World} {R : Value → World → Prop} (h : Rows P row args w R) : RowsIn Fence.wide n P row args w R :=
  fun c cs _ => let ⟨v, w', r, s⟩ := h c cs; ⟨v, w', r, stepsIn_wide.2 s⟩

theorem oper_round {l n : Nat} {P : Program} {Q : Exit → Act → World → Prop} (hQ : ∀ a w, ¬ Q .outgrown a w) {o : Oper} (hd : isDefer o.op = false) {a : Act} {w : World} {K : Act → World → Prop}
    (h : o.wp P a w K Q ∨ (o.asks P a w ∧ LetsOut Q)) : o.wpIn (Fence.wide.inRound l) n P a w K Q := by
  rcases h with h | ⟨_, a', w', h⟩
  · refine ⟨fun _ _ => trivial, ?_⟩
    have he : Oper.semAt (Fence.wide.inRound l).round a.eval o = execOp a.eval o := Oper.semAt_some l a.eval o (not_defer hd)
    rw [he]
    unfold Oper.wp at h
    generalize (execOp a.eval o).run P w = r at h
    cases r with
    | ok x w1 =>
      cases x <;> simp only [Oper.upon, Oper.uponIn] at h ⊢
      case value => exact h
      case skip => exact h
      case defer => exact h
      case enter f args => exact ⟨fun e => (by cases e), CallsIn.inRound l (callsIn_wide.2 h)⟩
      case row row args => exact ⟨fun e => (by cases e), rowsIn_wide h⟩
    | halt x w1 => cases x <;> simp only [Oper.upon, Oper.uponIn] at h ⊢ <;> exact h
  · exact (hQ _ _ h).elim

theorem wpOp_round {l n : Nat} {P : Program} {ops : Array Oper} {Q : Exit → Act → World → Prop} (hQ : ∀ a w, ¬ Q .outgrown a w) (hd : ops.all (fun o => !isDefer o.op) = true) {i : Nat} {a : Act} {w : World} {K : Act → World → Prop}
    (h : wpOp P ops Q i K a w) : wpOpIn (Fence.wide.inRound l) n P ops Q i K a w := by
  unfold wpOp at h
  unfold wpOpIn
  cases ho : ops[i]? with
  | none => simp only [ho] at h ⊢; exact h
  | some o =>
    simp only [ho] at h ⊢
    have hd' : isDefer o.op = false := by
      obtain ⟨hi, he⟩ := Array.getElem?_eq_some_iff.1 ho
      have := Array.all_eq_true.1 hd i hi
      rw [he] at this
      simpa using this
    split
    · rename_i hw
      simp only [hw, if_true] at h
      exact oper_round hQ hd' h
    · rename_i hw
      simp only [hw, Bool.false_eq_true, if_false] at h
      exact ⟨fun _ _ => trivial, h⟩

theorem wpAny_round {l n : Nat} {P : Program} {ops : Array Oper} {Q : Exit → Act → World → Prop} {md : Region.Mode} (hQ : ∀ a w, ¬ Q .outgrown a w) (hd : ops.all (fun o => !isDefer o.op) = true) :
    ∀ (fuel : Nat) (listed : Array Bool) (a : Act) (w : World), wpAny P md ops Q fuel listed a w → wpAnyIn (Fence.wide.inRound l) n P md ops Q fuel listed a w
  | 0, _, _, _, h => h
  | fuel + 1, _, _, _, h => ⟨h.1, fun i hi => wpOp_round hQ hd (wpOp_mono (fun a' w' h' => wpAny_round hQ hd fuel _ a' w' h') (h.2 i hi))⟩

/-- A region within a round. -/
theorem wpIn_round_held {l n id : Nat} {P : Program} {ops : Array Oper} {Q : Exit → Act → World → Prop} {S : World → Prop} {a : Act} {w : World} (hm : P.follows .mixedOrders = true)
    (hd : ops.all (fun o => !isDefer o.op) = true) (hQ : ∀ a w, ¬ Q .outgrown a w) (hS : S w.drew) (h : S w.drew → wpAnyH P .any ops Q S ops.size (Array.replicate ops.size false) a w.drew) :
    (Code.region id ops true).wpIn (Fence.wide.inRound l) n P Q a w :=
  wpIn_region_any hm (wpAny_round hQ hd _ _ _ _ (wpAny_of_held _ _ _ _ (h hS)))

theorem wpAnyH_mono {P : Program} {md : Region.Mode} {ops : Array Oper} {Q : Exit → Act → World → Prop} {S S' : World → Prop} (hs : ∀ w, S' w → S w) :
    ∀ (fuel : Nat) (listed : Array Bool) (a : Act) (w : World), wpAnyH P md ops Q S' fuel listed a w → wpAnyH P md ops Q S fuel listed a w
  | 0, _, _, _, h => h
  | fuel + 1, _, _, _, h => ⟨h.1, fun i hi => wpOp_mono (fun a' w' h' => ⟨hs w' h'.1, wpAnyH_mono hs fuel _ a' w' h'.2⟩) (h.2 i hi)⟩

end Go.Bs

namespace Go.Bs
open Go Go.RowKit

section
variable {P : Program} {ops : Array Oper} {Q : Exit → Act → World → Prop} {md : Region.Mode} {S : World → Prop}

/-- The one operation that may come up, by a law. -/
theorem wpAnyH_law {fuel : Nat} {listed : Array Bool} {a : Act} {w : World} (i : Nat) {o : Oper} (hr : Region.ready md ops listed = [i]) (ho : ops[i]? = some o) (hg : o.guard = none)
    (h : Oper.wp P o a w (fun a' w' => S w' ∧ wpAnyH P md ops Q S fuel (listed.setIfInBounds i true) a' w') Q) : wpAnyH P md ops Q S (fuel + 1) listed a w := by
  refine wpAnyH_all hr (by simp) fun j hj => ?_
  obtain rfl : j = i := by simpa using hj
  unfold wpOp
  rw [ho]
  simp only [Region.wanted, hg, if_true]
  exact .inl h

/-- Two operations may come up. -/
theorem wpAnyH_law2 {fuel : Nat} {listed : Array Bool} {a : Act} {w : World} (i j : Nat) {o o' : Oper} (hr : Region.ready md ops listed = [i, j]) (ho : ops[i]? = some o) (hg : o.guard = none) (ho' : ops[j]? = some o') (hg' : o'.guard = none)
    (h : Oper.wp P o a w (fun a' w' => S w' ∧ wpAnyH P md ops Q S fuel (listed.setIfInBounds i true) a' w') Q)
    (h' : Oper.wp P o' a w (fun a' w' => S w' ∧ wpAnyH P md ops Q S fuel (listed.setIfInBounds j true) a' w') Q) : wpAnyH P md ops Q S (fuel + 1) listed a w := by
  refine wpAnyH_all hr (by simp) fun k hk => ?_
  have hk' : k = i ∨ k = j := by simpa using hk
  rcases hk' with rfl | rfl
  · unfold wpOp
    rw [ho]
    simp only [Region.wanted, hg, if_true]
    exact .inl h
  · unfold wpOp
    rw [ho']
    simp only [Region.wanted, hg', if_true]
    exact .inl h'

variable {o : Oper} {a : Act} {K : Act → World → Prop} {w : World}

theorem wp_allocAgg (t : TypeId) (ho : o.op = .alloc t) (z : Array Value) (hz : (P.info? t).bind (·.zero) = some (.agg z))
    (h : K (a.put o.dst (.pointer (some ⟨w.heap.size, 0, none⟩))) (w.alloc (.cells z t))) : o.wp P a w K Q := by
  unfold Oper.wp
  cases hi : P.info? t with
  | none => simp [hi] at hz
  | some i =>
    have hz' : i.zero = some (.agg z) := by simpa [hi] using hz
    simp [execOp, ho, Instr.alloc, zeroValue, typeInfo, hi, hz', newVar, newRow, Value.cells, Result.andThen]
    exact h

theorem wp_app (s x : Operand) (t : TypeId) (ho : o.op = .call { callee := .builtin .append, args := #[s, x], argTypes := #[t, t] })
    (B : Nat) (e : TypeId) (z : Value) (size bytes : Nat) (hI : (P.info? e).map (fun i => (i.zero, i.size, i.bytes)) = some (some z, size, bytes)) (hz : z.cells.size = size) (hsz : 0 < size)
    (ht : P.underlying t = some (.slice e)) (v : Value) (hs : a.eval s = v) (n : Nat) (xs : List Value) (hown : w.ownsRow B e size v n xs)
    (ao : Option Addr) (m c : Nat) (hx : a.eval x = .slice ao m c) (news : List Value) (hrow : Row w ao news) (hm : news.length = m * size) (hnone : ao = none → c = 0) (hu : ∀ u ∈ news, u.oneCell' = true)
    (hn : (n + m) * bytes ≤ 140737488355328) (hn' : n + m ≤ 9223372036854775807) (hB : B ≤ w.heap.size)
    (h : ∀ v' w', w'.ownsRow B e size v' (n + m) (xs ++ news) → Keep w v w' v' → K (a.put o.dst v') w') : o.wp P a w K Q := by
  obtain ⟨i, hi, hz0, hz1, hz2⟩ := info_parts hI
  obtain ⟨v', w', hrun, ho', hk⟩ := run_append_keep (P := P) (w := w) B t o.type e i z size bytes ht hi hz0 hz1 hz2 hz hsz v n xs hown ao m c news hrow hm hnone hu (by unfold maxLen; omega) hn hB
  unfold Oper.wp
  simp [execOp, ho, resolve, invoke, builtin, hs, hx, hrun, Result.andThen]
  exact h _ _ ho' hk

theorem wp_make (l c : Operand) (t : TypeId) (ho : o.op = Op.makeSlice t l c)
    (e : TypeId) (z : Value) (bytes : Nat) (hI : (P.info? e).map (fun i => (i.zero, i.size, i.bytes)) = some (some z, 1, bytes)) (hz : z.cells = #[z])
    (ht : P.underlying t = some (.slice e)) (kl kc : IntKind) (L C : Int) (hl : a.eval l = .int kl L) (hc : a.eval c = .int kc C)
    (n m : Nat) (hL : L = n) (hC : C = m) (hnm : n ≤ m) (hm : bytes * m ≤ 281474976710656) (hm' : m ≤ 9223372036854775807)
    (h : ∀ w', w'.ownsRow w.heap.size e 1 (.slice (some ⟨w.heap.size, 0, none⟩) n m) n (List.replicate n z) → Ext w w' → K (a.put o.dst (.slice (some ⟨w.heap.size, 0, none⟩) n m)) w') : o.wp P a w K Q := by
  obtain ⟨i, hi, hz0, hz1, hz2⟩ := info_parts hI
  subst hL hC
  have hb' : (i.bytes : Int) * (m : Int) ≤ 281474976710656 := by
    have h : ((i.bytes * m : Nat) : Int) ≤ 281474976710656 := by rw [hz2]; omega
    rwa [Int.natCast_mul] at h
  have hrun := run_make (P := P) w t e i z ht hi hz0 kl kc n m (by omega) (by omega) hb' (by omega)
  simp only [Int.toNat_natCast, hz1, Nat.mul_one, hz] at hrun
  unfold Oper.wp
  simp [execOp, ho, hl, hc, hrun, Result.andThen]
  refine h _ ⟨by simp, Or.inr ⟨_, _, _, rfl, Nat.le_refl _, heap_alloc_new _ _, hnm, ?_, ?_, ?_⟩⟩ (Ext.alloc _ _)
  · unfold maxLen; omega
  · simp [size_madeCells]
  · rw [toList_madeCells_one]; simp [List.take_replicate]; omega

theorem wp_storeK (t : TypeId) (x y : Operand) (ho : o.op = .store t x y) (g : Nat) (cells : Array Value) (hx : a.eval x = .pointer (some ⟨g, 0, none⟩)) (hy : a.eval y = .agg cells)
    (tt : TypeId) (old : Array Value) (hgl : w.heap[g]? = some (.cells old tt (0, 0))) (hi : (P.info? t).map (·.size) = some cells.size)
    (hold : old.size = cells.size) (h1 : cells.all (·.oneCell') = true) (ws : World) (hb : Ext ws w) (hB : ws.heap.size ≤ g)
    (h : ∀ w', Ext ws w' → w'.heap[g]? = some (.cells cells tt (0, 0)) → (∀ k, k ≠ g → w'.heap[k]? = w.heap[k]?) → K (a.put o.dst undef) w') : o.wp P a w K Q :=
  wp_store_row t x y ho g cells hx hy tt old hgl hi hold h1 (h _ (hb.setRow g hB cells) (setRow_heap w g old cells tt (0, 0) hgl) (fun k hk => setRow_other w g k cells hk))
end

/-- A slice of the call's own that lies elsewhere than a block that was turned. -/
theorem own_off {w w' : World} {B g : Nat} {e : TypeId} {sz : Nat} {v : Value} {n : Nat} {xs : List Value} (h : w.ownsRow B e sz v n xs) (hk : ∀ k, k ≠ g → w'.heap[k]? = w.heap[k]?) (hg : v.ownBlock ≠ some g) : w'.ownsRow B e sz v n xs := by
  refine ⟨h.1, ?_⟩
  rcases h.2 with h0 | ⟨b, cap, cur, hv, hb, hgg, hrest⟩
  · exact Or.inl h0
  · refine Or.inr ⟨b, cap, cur, hv, hb, (hk b ?_).trans hgg, hrest⟩
    rintro rfl
    apply hg
    rw [hv]
    rfl

theorem own_ptr {w : World} {B : Nat} {e : TypeId} {sz : Nat} {v : Value} {n : Nat} {xs : List Value} (h : w.ownsRow B e sz v n xs) (hn : 0 < n) :
    ∃ g cap, v = .slice (some ⟨g, 0, none⟩) n cap ∧ B ≤ g ∧ g < w.heap.size ∧ n ≤ cap ∧ cap ≤ 9223372036854775807 := by
  rcases h.2 with ⟨_, h0⟩ | ⟨g, cap, cur, hv, hb, hg, hnc, hcm, _⟩
  · omega
  · exact ⟨g, cap, hv, hb, (Array.getElem?_eq_some_iff.1 hg).1, hnc, by unfold maxLen at hcm; exact hcm⟩
/-- A store into a row of one's own. -/
theorem own_set {w : World} {B g cap n : Nat} {e : TypeId} {xs : List Value} (h : w.ownsRow B e 1 (.slice (some ⟨g, 0, none⟩) n cap) n xs) (i : Nat) (v : Value) :
    (w.setCell ⟨g, i, none⟩ v).ownsRow B e 1 (.slice (some ⟨g, 0, none⟩) n cap) n (xs.set i v) := (h.stored i v).1
theorem heap_set (w : World) (g i : Nat) (v : Value) (k : Nat) (h : k ≠ g) : (w.setCell ⟨g, i, none⟩ v).heap[k]? = w.heap[k]? := Deep.blk_setCell_other w ⟨g, i, none⟩ v k h
/-- What a struct's block holds. -/
theorem cells3 {w : World} {g : Nat} {c0 c1 c2 : Value} {t : TypeId} {fr : Nat × Nat} (h : w.heap[g]? = some (.cells #[c0, c1, c2] t fr)) :
    w.cell? ⟨g, 0, none⟩ = some c0 ∧ w.cell? ⟨g, 1, none⟩ = some c1 ∧ w.cell? ⟨g, 2, none⟩ = some c2 :=
  ⟨by rw [cell_of_row _ _ _ _ _ _ h]; rfl, by rw [cell_of_row _ _ _ _ _ _ h]; rfl, by rw [cell_of_row _ _ _ _ _ _ h]; rfl⟩

/-- The result: a struct's variable. -/
theorem results_cellOne {P : Program} {fn : Func} {p : Tmp} {ty : TypeId} (h : fn.results = #[.cell p ty]) (tmps : Array Value) (w : World) (g : Nat) (t : TypeId) (cs : Array Value) (fr : Nat × Nat) (d : TypeDesc)
    (hp : tmps.getD p undef = .pointer (some ⟨g, 0, none⟩)) (hg : w.heap[g]? = some (.cells cs t fr))
    (hu : P.underlying ty = some d) (hd : (match d with | .struct _ | .array _ _ => true | _ => false) = true) (hi : (P.info? ty).map (·.size) = some cs.size) :
    (results fn tmps).run P w = .ok (.agg cs) w := by
  have hp' : tmps[p]?.getD undef = .pointer (some ⟨g, 0, none⟩) := by simpa using hp
  simp [results, h, hp', asAddr, run_loadVar_row w g t ty cs fr d hg hu hd hi]

/-- A matrix of the call's own is returned. -/
def OwnMat (t : TypeId) (w : World) (W H : Int) (xs : List Bool) (e : Ending) (w' : World) : Prop :=
  ∃ s, e = .returned (.agg #[.int .i64 W, .int .i64 H, s]) ∧ w'.ownsRow w.heap.size t 1 s xs.length (bools xs) ∧ Ext w w'

/-- A matrix of the call's own and an error are returned. -/
def RetMat (t : TypeId) (w : World) (r : (Int × Int × List Bool) × Int) (e : Ending) (w' : World) : Prop :=
  ∃ s, e = .returned (.tuple #[.agg #[.int .i64 r.1.1, .int .i64 r.1.2.1, s], .int .i64 r.2]) ∧ w'.ownsRow w.heap.size t 1 s r.1.2.2.length (bools r.1.2.2) ∧ Ext w w'
theorem RetMat.nil (t : TypeId) (w w' : World) (c : Int) (h : Ext w w') : RetMat t w ((0, 0, []), c) (.returned (.tuple #[.agg #[.int .i64 0, .int .i64 0, .slice none 0 0], .int .i64 c])) w' :=
  ⟨_, rfl, World.ownsRow_nil _ _ _ _, h⟩

end Go.Bs

namespace Go.Proofs.Ytjkpdhcnklgfbaa
open Go.RowKit Go.Bs Go.Qrv Go.Lay

/-- A matrix is valid. -/
def vB (W H : Int) (n : Nat) : Bool := decide (1 ≤ W) && decide (W ≤ 4096) && decide (1 ≤ H) && decide (H ≤ 4096) && decide (W * H ≤ 4194304) && decide ((n : Int) = W * H)
/-- The error of a matrix. -/
def mcode (W H : Int) (n : Nat) : Int := if vB W H n = true then (if W = H ∧ 21 ≤ W ∧ W ≤ 177 ∧ W % 4 = 1 then 0 else 23) else 1
def matV (W H : Int) (ao : Option Addr) (n cap : Nat) : Array Value := #[.int .i64 W, .int .i64 H, .slice ao n cap]

theorem vB_cases (W H : Int) (n : Nat) : ((W < 1 ∨ (1 ≤ W ∧ 4096 < W) ∨ (1 ≤ W ∧ W ≤ 4096 ∧ H < 1) ∨ (1 ≤ W ∧ W ≤ 4096 ∧ 1 ≤ H ∧ 4096 < H)) ∧ vB W H n = false) ∨
    (1 ≤ W ∧ W ≤ 4096 ∧ 1 ≤ H ∧ H ≤ 4096 ∧ ∃ P, wrap64 (W * H) = P ∧ 1 ≤ P ∧ W * H = P ∧ ((4194304 < P ∧ vB W H n = false) ∨ (P ≤ 4194304 ∧ ((n : Int) == P) = false ∧ vB W H n = false) ∨ (P ≤ 4194304 ∧ (n : Int) = P ∧ vB W H n = true))) := by
  by_cases h : W < 1 ∨ (1 ≤ W ∧ 4096 < W) ∨ (1 ≤ W ∧ W ≤ 4096 ∧ H < 1) ∨ (1 ≤ W ∧ W ≤ 4096 ∧ 1 ≤ H ∧ 4096 < H)
  · refine .inl ⟨h, ?_⟩
    unfold vB
    rcases h with h | ⟨_, h⟩ | ⟨_, _, h⟩ | ⟨_, _, _, h⟩
    · rw [decide_eq_false (show ¬ 1 ≤ W by omega)]; simp
    · rw [decide_eq_false (show ¬ W ≤ 4096 by omega)]; simp
    · rw [decide_eq_false (show ¬ 1 ≤ H by omega)]; simp
    · rw [decide_eq_false (show ¬ H ≤ 4096 by omega)]; simp
  · have h1 : 1 ≤ W ∧ W ≤ 4096 ∧ 1 ≤ H ∧ H ≤ 4096 := by omega
    obtain ⟨a, b, c, d⟩ := h1
    obtain ⟨P, hP⟩ : ∃ P, W * H = P := ⟨_, rfl⟩
    have hp1 : 1 ≤ P := by rw [← hP]; have := Int.mul_le_mul a c (by decide) (by omega); omega
    have hp2 : P ≤ 16777216 := by rw [← hP]; have := Int.mul_le_mul b d (by omega) (by decide); omega
    refine .inr ⟨a, b, c, d, P, by rw [hP]; exact IntWalk.wrap64_in _ ⟨by omega, by omega⟩, hp1, hP, ?_⟩
    unfold vB
    rw [hP, decide_eq_true a, decide_eq_true b, decide_eq_true c, decide_eq_true d]
    by_cases e : P ≤ 4194304
    · by_cases f : (n : Int) = P
      · exact .inr (.inr ⟨e, f, by rw [decide_eq_true e, decide_eq_true f]; rfl⟩)
      · exact .inr (.inl ⟨e, by simpa using f, by rw [decide_eq_true e, decide_eq_false f]; rfl⟩)
    · exact .inl ⟨by omega, by rw [decide_eq_false e]; rfl⟩


set_option maxRecDepth 20000 in
set_option maxHeartbeats 1000000 in
theorem valid_any (W H : Int) (ao : Option Addr) (n cap : Nat) (w : World) :
    Calls Try.prog 72 #[.agg (matV W H ao n cap)] w fun e w' => e = .returned (.bool (vB W H n)) ∧ Ext w w' := by
  unfold matV
  skip
  rcases vB_cases W H n with ⟨h, hv⟩ | ⟨h1, h2, h3, h4, P, hp, hp1, -, h⟩
  · rw [hv]
    clear hv
    rcases h with h | ⟨h1, h⟩ | ⟨h1, h2, h⟩ | ⟨h1, h2, h3, h⟩
    all_goals
      go_enter Try.func72, Try.ntmps72
      go_wp2_with fail
      go_ret
      exact ⟨rfl, Ext.alloc _ _⟩
  · rcases h with ⟨h5, hv⟩ | ⟨h5, h6, hv⟩ | ⟨h5, h6, hv⟩
    · rw [hv]
      clear hv
      go_enter Try.func72, Try.ntmps72
      go_wp2_with fail
      go_ret
      exact ⟨rfl, Ext.alloc _ _⟩
    · rw [hv]
      clear hv
      go_enter Try.func72, Try.ntmps72
      go_wp2_with fail
      go_ret
      exact ⟨rfl, Ext.alloc _ _⟩
    · rw [hv]
      clear hv
      have h7 : ((n : Int) == P) = true := by simpa using h6
      clear h6
      go_enter Try.func72, Try.ntmps72
      go_wp2_with fail
      go_ret
      exact ⟨rfl, Ext.alloc _ _⟩

set_option maxRecDepth 20000 in
set_option maxHeartbeats 1000000 in
theorem sound_any (W H : Int) (ao : Option Addr) (n cap : Nat) (w : World) :
    Calls Try.prog 66 #[.agg (matV W H ao n cap)] w fun e w' => e = .returned (.bool (vB W H n)) ∧ Ext w w' := by
  unfold matV
  skip
  rcases vB_cases W H n with ⟨h, hv⟩ | ⟨h1, h2, h3, h4, P, hp, hp1, -, h⟩
  · rw [hv]
    clear hv
    rcases h with h | ⟨h1, h⟩ | ⟨h1, h2, h⟩ | ⟨h1, h2, h3, h⟩
    all_goals
      go_enter Try.func66, Try.ntmps66
      go_wp2_with fail
      go_ret
      exact ⟨rfl, Ext.alloc _ _⟩
  · rcases h with ⟨h5, hv⟩ | ⟨h5, h6, hv⟩ | ⟨h5, h6, hv⟩
    · rw [hv]
      clear hv
      go_enter Try.func66, Try.ntmps66
      go_wp2_with fail
      go_ret
      exact ⟨rfl, Ext.alloc _ _⟩
    · rw [hv]
      clear hv
      go_enter Try.func66, Try.ntmps66
      go_wp2_with fail
      go_ret
      exact ⟨rfl, Ext.alloc _ _⟩
    · rw [hv]
      clear hv
      have h7 : ((n : Int) == P) = true := by simpa using h6
      clear h6
      go_enter Try.func66, Try.ntmps66
      go_wp2_with fail
      go_ret
      exact ⟨rfl, Ext.alloc _ _⟩

end Go.Proofs.Ytjkpdhcnklgfbaa

namespace Go.Proofs.Ytjkpdhcnklgfbaa
open Go.RowKit Go.Bs Go.Qrv Go.Lay

theorem sd_bd (n : Nat) (h1 : 1 ≤ n) (h2 : n ≤ 40) : 21 ≤ sd n ∧ sd n ≤ 177 ∧ sd n % 4 = 1 ∧ (sd n : Int) = 17 + 4 * n := by unfold sd; omega
theorem vB_sd (n : Nat) (h1 : 1 ≤ n) (h2 : n ≤ 40) : vB (sd n) (sd n) (sd n * sd n) = true := by
  obtain ⟨a, b, -, -⟩ := sd_bd n h1 h2
  have hq : sd n * sd n ≤ 31329 := Nat.mul_le_mul b b
  unfold vB
  rw [← Int.natCast_mul]
  simp only [Bool.and_eq_true, decide_eq_true_eq, and_true]
  omega
theorem mcode_ok {W H : Int} {n : Nat} (h : mcode W H n = 0) : ∃ v : Nat, 1 ≤ v ∧ v ≤ 40 ∧ W = (sd v : Nat) ∧ H = (sd v : Nat) ∧ n = sd v * sd v := by
  unfold mcode at h
  split at h
  · rename_i hv
    split at h
    · rename_i hc
      obtain ⟨rfl, h1, h2, h3⟩ := hc
      refine ⟨((W - 17) / 4).toNat, by omega, by omega, ?_⟩
      have hs : (sd ((W - 17) / 4).toNat : Int) = W := by unfold sd; omega
      refine ⟨hs.symm, hs.symm, ?_⟩
      unfold vB at hv
      simp only [Bool.and_eq_true, decide_eq_true_eq] at hv
      have := hv.2
      rw [← hs, ← Int.natCast_mul] at this
      exact Int.ofNat.inj this
    · cases h
  · cases h
theorem mcode_sd (n : Nat) (h1 : 1 ≤ n) (h2 : n ≤ 40) : mcode (sd n) (sd n) (sd n * sd n) = 0 := by
  obtain ⟨a, b, c, d⟩ := sd_bd n h1 h2
  unfold mcode
  rw [if_pos (vB_sd n h1 h2), if_pos ⟨rfl, by omega, by omega, by omega⟩]

/-- A layout that is empty is returned, with an error. -/
def RetNoLay (w : World) (c : Int) (e : Ending) (w' : World) : Prop := e = .returned (.tuple #[.agg #[.int .i64 0, .int .i64 0, .slice none 0 0], .int .i64 c]) ∧ Ext w w'

theorem noSize_cases {W : Int} (h1 : 1 ≤ W) (h2 : W ≤ 4096) (h : ¬ (21 ≤ W ∧ W ≤ 177 ∧ W % 4 = 1)) :
    (∃ T, W < 17 ∧ (W - 17).tdiv 4 = T ∧ -4 ≤ T ∧ T < 1) ∨ (∃ T, 17 ≤ W ∧ (W - 17) / 4 = T ∧ 0 ≤ T ∧ T < 1) ∨ (∃ T, 17 ≤ W ∧ (W - 17) / 4 = T ∧ 1 ≤ T ∧ 40 < T ∧ T ≤ 2000) ∨
      (∃ T, 17 ≤ W ∧ (W - 17) / 4 = T ∧ 1 ≤ T ∧ T ≤ 40 ∧ (W != 17 + 4 * T) = true) := by
  by_cases h3 : W < 17
  · left
    refine ⟨_, h3, rfl, ?_, ?_⟩
    · rw [show W - 17 = -(17 - W) by omega, Int.neg_tdiv, Int.tdiv_eq_ediv_of_nonneg (by omega)]
      omega
    · rw [show W - 17 = -(17 - W) by omega, Int.neg_tdiv, Int.tdiv_eq_ediv_of_nonneg (by omega)]
      omega
  · right
    by_cases h4 : (W - 17) / 4 < 1
    · exact .inl ⟨_, by omega, rfl, by omega, h4⟩
    · right
      by_cases h5 : 40 < (W - 17) / 4
      · exact .inl ⟨_, by omega, rfl, by omega, h5, by omega⟩
      · refine .inr ⟨_, by omega, rfl, by omega, by omega, ?_⟩
        simp
        omega

set_option maxRecDepth 20000 in
set_option maxHeartbeats 1000000 in
theorem layoutOf_ok (n : Nat) (h1 : 1 ≤ n) (h2 : n ≤ 40) (ao : Option Addr) (cap : Nat) (w : World) :
    Calls Try.prog 40 #[.agg (matV (sd n) (sd n) ao (sd n * sd n) cap)] w (RetLay w n (al n)) := by
  have HVA := fun (W : World) => Lib.hid (valid_any (sd n) (sd n) ao (sd n * sd n) cap W)
  rw [vB_sd n h1 h2] at HVA
  have HNL := fun (W : World) => Lib.hid (newLayout_1 n h1 h2 W)
  have HPO : Hid (∀ a ∈ al n, 1 ≤ a) := fun a ha => by have := (al_facts n h1 h2).2.1 a ha; omega
  unfold RetLay at HNL ⊢
  obtain ⟨a1, a2, a3, a4⟩ := sd_bd n h1 h2
  have HA4 := Lib.hid a4
  have n1 : (1 : Int) ≤ n := by omega
  have n2 : (n : Int) ≤ 40 := by omega
  generalize sd n * sd n = Q at HVA ⊢
  generalize al n = L at HNL HPO ⊢
  generalize sd n = k at HVA HNL HA4 a1 a2 a3 ⊢
  have hD : ((k : Int) - 17) / 4 = (n : Int) := by have := HA4.out; omega
  have hE : 17 + 4 * (n : Int) = (k : Int) := HA4.out.symm
  have HD := Lib.hid hD
  have HE := Lib.hid hE
  unfold matV at HVA ⊢
  clear a4 hD hE
  go_enter Try.func40, Try.ntmps40
  go_wp2_with fail
  refine (HVA _).out.mono ?_
  rintro e w1 ⟨rfl, hx1⟩
  have HX1 : Hid (Ext w w1) := ((Ext.alloc _ _).trans (Ext.alloc _ _)).trans hx1
  have HG := Lib.hid hx1.new
  rw [World.size_alloc] at HG
  obtain ⟨z0, z1, z2⟩ := box3 ((Ext.alloc _ _).trans hx1)
  have hD := HD.out
  have hE := HE.out
  clear hx1
  go_wp2_with fail
  clear hD hE
  refine (HNL _).out.mono ?_
  rintro e w2 ⟨b2, c2, rfl, hr2, hx2⟩
  have HX2 : Hid (Ext w w2) := HX1.out.trans hx2
  have HG2 := Lib.hid (hx2.old HG.out)
  have HR2 := Lib.hid hr2
  clear hx2 hr2
  unfold layV
  generalize hm : L.length = m
  have HM := Lib.hid hm
  clear hm
  go_wp2_with ((with_reducible show wpList _ _ _ (⟨none, .store 69 _ _, _, _, _, _⟩ :: _) _ _); refine wpList_storeOwnK rfl 69 _ _ rfl (w.heap.size + 1) _ rfl rfl 69 _ HG2.out (by kernel_rfl) (by kernel_rfl) (by kernel_rfl) w HX2 (Nat.le_succ _) ?_; intro w3 HX3 HG3 HK3)
  refine bodyPost_ret (results_cellSlot rfl _ w3 (w.heap.size + 1) 69 _ (0, 0) _ rfl HG3.out Try.underlying69 rfl (by kernel_rfl)) rfl ?_
  have hm := HM.out
  subst hm
  exact ⟨b2, c2, rfl, HR2.out.off3 HPO.out HG2.out HK3.out, HX3⟩



set_option maxRecDepth 20000 in
set_option maxHeartbeats 2000000 in
theorem layoutOf_no (W H : Int) (ao : Option Addr) (n cap : Nat) (w : World) (hc : mcode W H n ≠ 0) :
    Calls Try.prog 40 #[.agg (matV W H ao n cap)] w (RetNoLay w (mcode W H n)) := by
  have HVA := fun (W1 : World) => Lib.hid (valid_any W H ao n cap W1)
  unfold mcode at hc ⊢
  unfold matV at HVA ⊢
  unfold RetNoLay
  cases hv : vB W H n
  · rw [hv] at HVA
    rw [if_neg (by decide)]
    clear hc hv
    skip
    go_enter Try.func40, Try.ntmps40
    go_wp2_with fail
    refine (HVA _).out.mono ?_
    rintro e w1 ⟨rfl, hx1⟩
    have HX1 : Hid (Ext w w1) := ((Ext.alloc _ _).trans (Ext.alloc _ _)).trans hx1
    have HG := Lib.hid hx1.new
    rw [World.size_alloc] at HG
    obtain ⟨z0, z1, z2⟩ := box3 ((Ext.alloc _ _).trans hx1)
    clear hx1
    skip
    go_wp2_with ((with_reducible show wpList _ _ _ (⟨none, .store 69 _ _, _, _, _, _⟩ :: _) _ _); refine wpList_storeOwnK rfl 69 _ _ rfl (w.heap.size + 1) _ rfl rfl 69 _ HG.out (by kernel_rfl) (by kernel_rfl) (by kernel_rfl) w HX1 (Nat.le_succ _) ?_; intro w3 HX3 HG3 HK3)
    exact bodyPost_ret (results_cellSlot rfl _ w3 (w.heap.size + 1) 69 _ (0, 0) _ rfl HG3.out Try.underlying69 rfl (by kernel_rfl)) rfl ⟨rfl, HX3⟩
  · have hb : 1 ≤ W ∧ W ≤ 4096 := by
      unfold vB at hv
      simp only [Bool.and_eq_true, decide_eq_true_eq] at hv
      exact ⟨hv.1.1.1.1.1, hv.1.1.1.1.2⟩
    rw [hv, if_pos rfl] at hc
    rw [hv] at HVA
    by_cases hz : W = H ∧ 21 ≤ W ∧ W ≤ 177 ∧ W % 4 = 1
    · rw [if_pos hz] at hc
      exact absurd rfl hc
    · rw [if_pos rfl, if_neg hz]
      clear hc hv
      obtain ⟨b1, b2⟩ := hb
      by_cases hwh : W = H
      · subst hwh
        rcases noSize_cases b1 b2 (fun h => hz ⟨rfl, h⟩) with ⟨T, h2, hT, h3, h4⟩ | ⟨T, h2, hT, h3, h4⟩ | ⟨T, h2, hT, h3, h4, h5⟩ | ⟨T, h2, hT, h3, h4, h5⟩
        all_goals
          have HT := Lib.hid hT
          clear hz hT
          skip
          go_enter Try.func40, Try.ntmps40
          go_wp2_with fail
          refine (HVA _).out.mono ?_
          rintro e w1 ⟨rfl, hx1⟩
          have HX1 : Hid (Ext w w1) := ((Ext.alloc _ _).trans (Ext.alloc _ _)).trans hx1
          have HG := Lib.hid hx1.new
          rw [World.size_alloc] at HG
          obtain ⟨z0, z1, z2⟩ := box3 ((Ext.alloc _ _).trans hx1)
          clear hx1
          have hT := HT.out
          skip
          go_wp2_with ((with_reducible show wpList _ _ _ (⟨none, .store 69 _ _, _, _, _, _⟩ :: _) _ _); refine wpList_storeOwnK rfl 69 _ _ rfl (w.heap.size + 1) _ rfl rfl 69 _ HG.out (by kernel_rfl) (by kernel_rfl) (by kernel_rfl) w HX1 (Nat.le_succ _) ?_; intro w3 HX3 HG3 HK3)
          exact bodyPost_ret (results_cellSlot rfl _ w3 (w.heap.size + 1) 69 _ (0, 0) _ rfl HG3.out Try.underlying69 rfl (by kernel_rfl)) rfl ⟨rfl, HX3⟩
      · have h : (W != H) = true := by simpa using hwh
        clear hz hwh
        skip
        go_enter Try.func40, Try.ntmps40
        go_wp2_with fail
        refine (HVA _).out.mono ?_
        rintro e w1 ⟨rfl, hx1⟩
        have HX1 : Hid (Ext w w1) := ((Ext.alloc _ _).trans (Ext.alloc _ _)).trans hx1
        have HG := Lib.hid hx1.new
        rw [World.size_alloc] at HG
        obtain ⟨z0, z1, z2⟩ := box3 ((Ext.alloc _ _).trans hx1)
        clear hx1
        skip
        go_wp2_with ((with_reducible show wpList _ _ _ (⟨none, .store 69 _ _, _, _, _, _⟩ :: _) _ _); refine wpList_storeOwnK rfl 69 _ _ rfl (w.heap.size + 1) _ rfl rfl 69 _ HG.out (by kernel_rfl) (by kernel_rfl) (by kernel_rfl) w HX1 (Nat.le_succ _) ?_; intro w3 HX3 HG3 HK3)
        exact bodyPost_ret (results_cellSlot rfl _ w3 (w.heap.size + 1) 69 _ (0, 0) _ rfl HG3.out Try.underlying69 rfl (by kernel_rfl)) rfl ⟨rfl, HX3⟩

/-- A number and no error are returned, or an error. -/
theorem refSize_cases {W : Int} (h1 : 1 ≤ W) (h2 : W ≤ 4096) (h : ¬ (21 ≤ W ∧ W ≤ 177 ∧ W % 4 = 1)) : W < 21 ∨ (21 ≤ W ∧ 177 < W) ∨ (21 ≤ W ∧ W ≤ 177 ∧ (W % 4 != 1) = true) := by
  by_cases h3 : W < 21
  · exact .inl h3
  · by_cases h4 : 177 < W
    · exact .inr (.inl ⟨by omega, h4⟩)
    · refine .inr (.inr ⟨by omega, by omega, ?_⟩)
      simp
      omega

set_option maxRecDepth 20000 in
set_option maxHeartbeats 1000000 in
theorem rversion20_ok (n : Nat) (h1 : 1 ≤ n) (h2 : n ≤ 40) (ao : Option Addr) (cap : Nat) (w : World) :
    Calls Try.prog 35 #[.agg (matV (sd n) (sd n) ao (sd n * sd n) cap)] w fun e w' => e = .returned (two (n, 0)) ∧ Ext w w' := by
  have HVA := fun (W : World) => Lib.hid (sound_any (sd n) (sd n) ao (sd n * sd n) cap W)
  rw [vB_sd n h1 h2] at HVA
  obtain ⟨a1, a2, a3, a4⟩ := sd_bd n h1 h2
  generalize sd n * sd n = Q at HVA ⊢
  generalize sd n = k at HVA a1 a2 a3 a4 ⊢
  have hD : ((k : Int) - 17) / 4 = (n : Int) := by omega
  have hM : ((k : Int) % 4 != 1) = false := by simp; omega
  have k1 : (21 : Int) ≤ k := by omega
  have k2 : (k : Int) ≤ 177 := by omega
  have HD := Lib.hid hD
  have HM := Lib.hid hM
  unfold matV at HVA ⊢
  unfold two
  clear a4 hD hM a1 a2 a3
  go_enter Try.func35, Try.ntmps35
  go_wp2_with fail
  refine (HVA _).out.mono ?_
  rintro e w1 ⟨rfl, hx1⟩
  have HX1 : Hid (Ext w w1) := (Ext.alloc _ _).trans hx1
  obtain ⟨z0, z1, z2⟩ := box3 hx1
  have hD := HD.out
  have hM := HM.out
  clear hx1
  go_wp2_with fail
  go_ret2
  refine ⟨?_, HX1.out⟩
  show Ending.returned (.tuple #[.int .i64 (((k : Int) - 17) / 4), .int .i64 0]) = _
  rw [HD.out]


set_option maxRecDepth 20000 in
set_option maxHeartbeats 1000000 in
theorem rversion20_no (W H : Int) (ao : Option Addr) (n cap : Nat) (w : World) (hc : mcode W H n ≠ 0) :
    Calls Try.prog 35 #[.agg (matV W H ao n cap)] w fun e w' => e = .returned (two (0, mcode W H n)) ∧ Ext w w' := by
  have HVA := fun (W1 : World) => Lib.hid (sound_any W H ao n cap W1)
  unfold mcode at hc ⊢
  unfold matV at HVA ⊢
  unfold two
  cases hv : vB W H n
  · rw [hv] at HVA
    rw [if_neg (by decide)]
    clear hc hv
    skip
    go_enter Try.func35, Try.ntmps35
    go_wp2_with fail
    refine (HVA _).out.mono ?_
    rintro e w1 ⟨rfl, hx1⟩
    have HX1 : Hid (Ext w w1) := (Ext.alloc _ _).trans hx1
    obtain ⟨z0, z1, z2⟩ := box3 hx1
    clear hx1
    go_wp2_with fail
    go_ret2
    exact ⟨rfl, HX1.out⟩
  · have hb : 1 ≤ W ∧ W ≤ 4096 := by
      unfold vB at hv
      simp only [Bool.and_eq_true, decide_eq_true_eq] at hv
      exact ⟨hv.1.1.1.1.1, hv.1.1.1.1.2⟩
    rw [hv, if_pos rfl] at hc
    rw [hv] at HVA
    by_cases hz : W = H ∧ 21 ≤ W ∧ W ≤ 177 ∧ W % 4 = 1
    · rw [if_pos hz] at hc
      exact absurd rfl hc
    · rw [if_pos rfl, if_neg hz]
      clear hc hv
      obtain ⟨b1, b2⟩ := hb
      by_cases hwh : W = H
      · subst hwh
        rcases refSize_cases b1 b2 (fun h => hz ⟨rfl, h⟩) with h2 | ⟨h2, h3⟩ | ⟨h2, h3, h4⟩
        all_goals
          clear hz
          skip
          go_enter Try.func35, Try.ntmps35
          go_wp2_with fail
          refine (HVA _).out.mono ?_
          rintro e w1 ⟨rfl, hx1⟩
          have HX1 : Hid (Ext w w1) := (Ext.alloc _ _).trans hx1
          obtain ⟨z0, z1, z2⟩ := box3 hx1
          clear hx1
          go_wp2_with fail
          go_ret2
          exact ⟨rfl, HX1.out⟩
      · have h : (W != H) = true := by simpa using hwh
        clear hz hwh
        skip
        go_enter Try.func35, Try.ntmps35
        go_wp2_with fail
        refine (HVA _).out.mono ?_
        rintro e w1 ⟨rfl, hx1⟩
        have HX1 : Hid (Ext w w1) := (Ext.alloc _ _).trans hx1
        obtain ⟨z0, z1, z2⟩ := box3 hx1
        clear hx1
        go_wp2_with fail
        go_ret2
        exact ⟨rfl, HX1.out⟩

end Go.Proofs.Ytjkpdhcnklgfbaa

namespace Go.Proofs.Ytjkpdhcnklgfbaa
open Go.RowKit Go.Bs Go.Qrv Go.Lay

theorem Try.infoBool' : (Try.prog.info? 4).map (fun i => (i.zero, i.size, i.bytes)) = some (some (.bool false), 1, 1) := by kernel_rfl



set_option maxRecDepth 20000 in
set_option maxHeartbeats 1000000 in
theorem clone_any (W H : Int) (ao : Option Addr) (n cap : Nat) (xs : List Bool) (w : World) (hl : xs.length = n) (hr : Row w ao (bools xs)) (hn0 : ao = none → cap = 0) (hb : n ≤ 1099511627776) :
    Calls Try.prog 44 #[.agg (matV W H ao n cap)] w (OwnMat 4 w W H xs) := by
  unfold matV
  have HR := Lib.hid hr
  have HL := Lib.hid hl
  have HN := Lib.hid hn0
  clear hr hl hn0
  obtain ⟨W1, hW1⟩ : ∃ W1, W1 = w.alloc (.cells #[.int .i64 W, .int .i64 H, .slice ao n cap] 24) := ⟨_, rfl⟩
  have hs1 : W1.heap.size = w.heap.size + 1 := by rw [hW1, World.size_alloc]
  have hbx : ∀ V, Ext W1 V → V.cell? ⟨w.heap.size, 0, none⟩ = some (.int .i64 W) ∧ V.cell? ⟨w.heap.size, 1, none⟩ = some (.int .i64 H) ∧ V.cell? ⟨w.heap.size, 2, none⟩ = some (.slice ao n cap) := by
    intro V h
    rw [hW1] at h
    exact box3 h
  have HX1 : Hid (Ext w W1) := by rw [hW1]; exact Ext.alloc _ _
  have HW1 := Lib.hid hW1
  have HS1 := Lib.hid hs1
  clear hW1 hs1
  obtain ⟨W2, hW2⟩ : ∃ W2, W2 = W1.alloc (.cells #[.int .i64 0, .int .i64 0, .slice none 0 0] 24) := ⟨_, rfl⟩
  have HG2 : Hid (∀ V, Ext W2 V → V.heap[w.heap.size + 1]? = some (.cells #[.int .i64 0, .int .i64 0, .slice none 0 0] 24 (0, 0))) := by
    intro V h
    rw [hW2] at h
    have := h.new
    rwa [HS1.out] at this
  have HX2 : Hid (Ext W1 W2) := by rw [hW2]; exact Ext.alloc _ _
  have HS2 : Hid (w.heap.size + 1 < W2.heap.size) := by rw [hW2, World.size_alloc, HS1.out]; exact Nat.lt_succ_self _
  have HW2 := Lib.hid hW2
  clear hW2
  go_enter Try.func44, Try.ntmps44
  go_wp2_with fail
  rw [← HW1.out, ← HW2.out]
  have b0 := fun V h => (hbx V h).1
  have b1 := fun V h => (hbx V h).2.1
  have b2 := fun V h => (hbx V h).2.2
  clear hbx
  refine wp_region_held_drew (S := fun V => Ext W1 V) (by kernel_rfl) (HX2.out.trans (Ext.drew _)) (fun hcur => ?_)
  skip
  refine wpAnyH_take (i := 0) (v := ?_) rfl (by kernel_rfl) (by kernel_rfl) (by kernel_rfl) (fun _ _ _ h => h) (Or.inl ⟨by rfl, ?_⟩) (by assumption) ?_
  rotate_left
  · (intro w hSw; try dsimp only at hSw); go_simp; try with_reducible rfl
  simp only [List.getElem_toArray, List.getElem_cons_zero, Act.put, List.setIfInBounds_toArray, List.set_cons_zero, List.set_cons_succ]
  skip
  refine wpAnyH_take (i := 1) (v := ?_) rfl (by kernel_rfl) (by kernel_rfl) (by kernel_rfl) (fun _ _ _ h => h) (Or.inl ⟨by rfl, ?_⟩) (by assumption) ?_
  rotate_left
  · (intro w hSw; try dsimp only at hSw); go_simp; try with_reducible rfl
  simp only [List.getElem_toArray, List.getElem_cons_zero, List.getElem_cons_succ, Act.put, List.setIfInBounds_toArray, List.set_cons_zero, List.set_cons_succ]
  skip
  refine wpAnyH_take (i := 2) (v := ?_) rfl (by kernel_rfl) (by kernel_rfl) (by kernel_rfl) (fun _ _ _ h => h) (Or.inl ⟨by rfl, ?_⟩) (by assumption) ?_
  rotate_left
  · (intro w hSw; try dsimp only at hSw); go_simp; try with_reducible rfl
  simp only [List.getElem_toArray, List.getElem_cons_zero, List.getElem_cons_succ, Act.put, List.setIfInBounds_toArray, List.set_cons_zero, List.set_cons_succ]
  skip
  refine wpAnyH_take (i := 3) (v := ?_) rfl (by kernel_rfl) (by kernel_rfl) (by kernel_rfl) (fun _ _ _ h => h) (Or.inl ⟨by rfl, ?_⟩) (by assumption) ?_
  rotate_left
  · (intro w hSw; try dsimp only at hSw); go_simp; try with_reducible rfl
  simp only [List.getElem_toArray, List.getElem_cons_zero, List.getElem_cons_succ, Act.put, List.setIfInBounds_toArray, List.set_cons_zero, List.set_cons_succ]
  skip
  refine wpAnyH_take (i := 4) (v := ?_) rfl (by kernel_rfl) (by kernel_rfl) (by kernel_rfl) (fun _ _ _ h => h) (Or.inl ⟨by rfl, ?_⟩) (by assumption) ?_
  rotate_left
  · (intro w hSw; try dsimp only at hSw); go_simp; try with_reducible rfl
  simp only [List.getElem_toArray, List.getElem_cons_zero, List.getElem_cons_succ, Act.put, List.setIfInBounds_toArray, List.set_cons_zero, List.set_cons_succ]
  skip
  refine wpAnyH_take (i := 5) (v := ?_) rfl (by kernel_rfl) (by kernel_rfl) (by kernel_rfl) (fun _ _ _ h => h) (Or.inl ⟨by rfl, ?_⟩) (by assumption) ?_
  rotate_left
  · (intro w hSw; try dsimp only at hSw); go_simp; try with_reducible rfl
  simp only [List.getElem_toArray, List.getElem_cons_zero, List.getElem_cons_succ, Act.put, List.setIfInBounds_toArray, List.set_cons_zero, List.set_cons_succ]
  refine wpAnyH_law 6 (by kernel_rfl) rfl rfl (wp_app _ _ 22 rfl W2.heap.size 4 (.bool false) 1 1 Try.infoBool' rfl (by decide) Try.underlying22 _ rfl 0 [] (World.ownsRow_nil _ _ _ _) ao n cap rfl (bools xs) (HR.out.ext (HX1.out.trans hcur)) (by rw [length_bools, HL.out]; omega) HN.out (bools_oneCell xs) (by omega) (by omega) (Ext.drew _).size ?_)
  intro s3 w3 hown3 hk3
  have hx3 := (Ext.drew W2).trans (hk3.toExt rfl)
  have HX3 := Lib.hid (HX2.out.trans hx3)
  refine ⟨HX3.out, ?_⟩
  have HG3 := HG2.out w3 hx3
  clear hk3 hx3
  rw [Nat.zero_add, List.nil_append] at hown3
  have hn3 : s3.ownBlock ≠ some (w.heap.size + 1) := own_below hown3 HS2.out
  obtain ⟨bo, bc, rfl, -, -, -, -⟩ := own_row hown3
  simp only [Act.put, List.setIfInBounds_toArray]
  skip
  refine wpAnyH_take (i := 7) (v := ?_) rfl (by kernel_rfl) (by kernel_rfl) (by kernel_rfl) (fun _ _ _ h => h) (Or.inl ⟨by rfl, ?_⟩) (by assumption) ?_
  rotate_left
  · (intro w hSw; try dsimp only at hSw); go_simp; try with_reducible rfl
  simp only [List.getElem_toArray, List.getElem_cons_zero, List.getElem_cons_succ, Act.put, List.setIfInBounds_toArray, List.set_cons_zero, List.set_cons_succ]
  refine wpAnyH_law 8 (by kernel_rfl) rfl rfl (wp_storeK 24 _ _ rfl (w.heap.size + 1) _ rfl rfl 24 _ HG3 (by kernel_rfl) (by kernel_rfl) (by kernel_rfl) W1 HX3.out (Nat.le_of_eq HS1.out) ?_)
  intro w4 hx4 hg4 hk4
  refine ⟨hx4, ?_⟩
  refine wpAnyH_done (by kernel_rfl) ?_ _
  have HG4 := Lib.hid hg4
  have HO4 := Lib.hid (own_off hown3 hk4 hn3)
  have HX4 := Lib.hid hx4
  clear hg4 hk4 hx4 hown3 HG3 b0 b1 b2
  go_wp2_with fail
  refine bodyPost_ret (results_cellOne rfl _ w4 (w.heap.size + 1) 24 _ (0, 0) _ rfl HG4.out Try.underlying24 rfl (by kernel_rfl)) rfl ?_
  exact ⟨_, rfl, by rw [HL.out]; exact own_base HO4.out (by have := HS2.out; omega), HX1.out.trans HX4.out⟩

set_option maxRecDepth 20000 in
set_option maxHeartbeats 1000000 in
theorem rcopy_any (W H : Int) (ao : Option Addr) (n cap : Nat) (xs : List Bool) (w : World) (hl : xs.length = n) (hr : Row w ao (bools xs)) (hn0 : ao = none → cap = 0) (hb : n ≤ 1099511627776) :
    Calls Try.prog 49 #[.agg (matV W H ao n cap)] w (OwnMat 4 w W H xs) := by
  unfold matV
  have HR := Lib.hid hr
  have HL := Lib.hid hl
  have HN := Lib.hid hn0
  clear hr hl hn0
  obtain ⟨W2, hW2⟩ : ∃ W2, W2 = (w.alloc (.cells #[.int .i64 W, .int .i64 H, .slice ao n cap] 24)).alloc (.cells #[.int .i64 0, .int .i64 0, .slice none 0 0] 24) := ⟨_, rfl⟩
  have HBX : Hid (∀ V, Ext W2 V → V.cell? ⟨w.heap.size, 0, none⟩ = some (.int .i64 W) ∧ V.cell? ⟨w.heap.size, 1, none⟩ = some (.int .i64 H) ∧ V.cell? ⟨w.heap.size, 2, none⟩ = some (.slice ao n cap)) := by
    intro V h
    rw [hW2] at h
    exact box3 ((Ext.alloc _ _).trans h)
  have HG2 : Hid (∀ V, Ext W2 V → V.heap[w.heap.size + 1]? = some (.cells #[.int .i64 0, .int .i64 0, .slice none 0 0] 24 (0, 0))) := by
    intro V h
    rw [hW2] at h
    have := h.new
    rwa [World.size_alloc] at this
  have HX2 : Hid (Ext w W2) := by rw [hW2]; exact (Ext.alloc _ _).trans (Ext.alloc _ _)
  have HS2 : Hid (w.heap.size + 1 < W2.heap.size) := by rw [hW2, World.size_alloc, World.size_alloc]; exact Nat.lt_succ_self _
  have HW2 := Lib.hid hW2
  clear hW2
  go_enter Try.func49, Try.ntmps49
  go_wp2_with (first | (at_builtin; rw [← HW2.out]; refine wpList_app rfl _ _ 22 rfl W2.heap.size 4 (.bool false) 1 1 Try.infoBool' rfl (by decide) Try.underlying22 _ rfl 0 [] (World.ownsRow_nil _ _ _ _) ao n cap rfl (bools xs) (HR.out.ext HX2.out) (by rw [length_bools, HL.out]; omega) HN.out (bools_oneCell xs) (by omega) (by omega) (Nat.le_refl _) ?_; intro s3 w3 hown3 hk3; rw [Nat.zero_add, List.nil_append] at hown3; have hx3 := hk3.toExt rfl; have HG3 := Lib.hid (HG2.out w3 hx3); obtain ⟨z0, z1, z2⟩ := HBX.out w3 hx3; have HN3 := Lib.hid (own_below hown3 HS2.out); obtain ⟨bo, bc, rfl, -, -, -, -⟩ := own_row hown3; have HOWN3 := Lib.hid hown3; have HX3 := Lib.hid (HX2.out.trans hx3); clear hown3 hk3 hx3) | ((with_reducible show wpList _ _ _ (⟨none, .store 24 _ _, _, _, _, _⟩ :: _) _ _); refine wpList_storeOwnK rfl 24 _ _ rfl (w.heap.size + 1) _ rfl rfl 24 _ HG3.out (by kernel_rfl) (by kernel_rfl) (by kernel_rfl) w HX3.out (Nat.le_succ _) ?_; intro w4 HX4 HG4 HK4))
  refine bodyPost_ret (results_cellOne rfl _ w4 (w.heap.size + 1) 24 _ (0, 0) _ rfl HG4.out Try.underlying24 rfl (by kernel_rfl)) rfl ?_
  exact ⟨_, rfl, by rw [HL.out]; exact own_base (own_off HOWN3.out HK4.out HN3.out) (by have := HS2.out; omega), HX4⟩

end Go.Proofs.Ytjkpdhcnklgfbaa
