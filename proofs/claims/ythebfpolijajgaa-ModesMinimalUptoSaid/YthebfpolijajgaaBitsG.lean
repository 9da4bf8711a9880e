/-
  Contracts of bits.NewReader, (*bits.Reader).Take, (*bits.Reader).Left and what they call.
  Conditions: the slices' cells are those of the lists; lengths are bounded.
-/
import Derived.Test.YthebfpolijajgaaBitsF
namespace Go.Proofs.Ythebfpolijajgaa
open Go.RowKit Go.Bs

/-- A reader lies in block g; the bits xs are left; they lie from block B on. -/
def Rd (w : World) (B g : Nat) (xs : List Bool) : Prop :=
  ∃ ao cap, w.heap[g]? = some (.cells #[.slice ao xs.length cap, .bool true] 122 (0, 0)) ∧ Row w ao (bools xs) ∧ xs.length ≤ cap ∧ cap ≤ 9223372036854775807 ∧ (∀ a, ao = some a → B ≤ a.block ∧ a.block ≠ g)

set_option maxHeartbeats 400000 in
theorem count_any (g : Nat) (ao : Option Addr) (len cap : Nat) (w : World) (hc : w.cell? ⟨g, 0, none⟩ = some (.slice ao len cap)) :
    Calls Try.prog 77 #[.pointer (some ⟨g, 0, none⟩)] w fun e w' => e = .returned (.int .i64 len) ∧ w = w' := by
  go_enter Try.func77, Try.ntmps77
  go_wp2
  go_ret
  exact ⟨rfl, rfl⟩

set_option maxHeartbeats 400000 in
theorem left_any (B g : Nat) (xs : List Bool) (w : World) (h : Rd w B g xs) :
    Calls Try.prog 55 #[.pointer (some ⟨g, 0, none⟩)] w fun e w' => e = .returned (.int .i64 xs.length) ∧ w = w' := by
  obtain ⟨ao, cap, hh, _⟩ := h
  have hc : w.cell? ⟨g, 0, none⟩ = some (.slice ao xs.length cap) := by rw [cell_of_row w g 0 _ _ _ hh]; rfl
  clear hh
  go_enter Try.func55, Try.ntmps55
  go_wp2_with (go_at_call 77; refine (count_any _ _ _ _ _ hc).mono ?_; rintro e w' ⟨rfl, rfl⟩)
  go_ret
  exact ⟨rfl, rfl⟩

set_option maxHeartbeats 400000 in
theorem left_nil (w : World) : Calls Try.prog 55 #[.pointer none] w fun e w' => e = .returned (.int .i64 0) ∧ w = w' := by
  go_enter Try.func55, Try.ntmps55
  go_wp2
  go_ret
  exact ⟨rfl, rfl⟩

set_option maxHeartbeats 400000 in
theorem next_err (g : Nat) (ao : Option Addr) (len cap : Nat) (xs : List Bool) (n : Int) (w : World) (hl : xs.length = len) (hcap : len ≤ cap) (hb : cap ≤ 9223372036854775807) (hr : Row w ao (bools xs))
    (hc : w.cell? ⟨g, 0, none⟩ = some (.slice ao len cap)) (he : ((takeRes xs 0 n).2 == 0) = false) :
    Calls Try.prog 78 #[.pointer (some ⟨g, 0, none⟩), .int .i64 n] w fun e w' => e = .returned (two (takeRes xs 0 n)) ∧ w = w' := by
  have HL := Lib.hid hl
  clear hl
  obtain ⟨t, ht⟩ : ∃ t, t = takeRes xs 0 n := ⟨_, rfl⟩
  rw [← ht] at he ⊢
  have HT := Lib.hid ht
  clear ht
  go_enter Try.func78, Try.ntmps78
  go_wp2_with (go_at_call 90; refine (take_any _ _ _ xs _ _ _ HL.out hcap hb hr).mono ?_; rw [← HT.out]; rintro e w' ⟨rfl, rfl⟩; simp only [two])
  go_ret2
  exact ⟨rfl, rfl⟩

theorem takeRes_ok {xs : List Bool} {n : Nat} (h1 : n ≤ 62) (h2 : n ≤ xs.length) : takeRes xs 0 n = (num (xs.take n), 0) := by
  rw [takeRes_3 (by omega) (by omega)]; simp

/-- What 'next' leaves. -/
def NextPost (w : World) (g : Nat) (ao : Option Addr) (len cap : Nat) (xs : List Bool) (n : Nat) (e : Ending) (w' : World) : Prop :=
  ∃ ao', e = .returned (two (num (xs.take n), 0)) ∧ w' = w.setCell ⟨g, 0, none⟩ (.slice ao' (len - n) (cap - n)) ∧ Row w ao' (bools (xs.drop n)) ∧ (∀ a', ao' = some a' → ∃ a, ao = some a ∧ a'.block = a.block)

theorem block_add (a : Addr) (n : Nat) : (a.add n).block = a.block := by unfold Addr.add; split <;> rfl

set_option maxHeartbeats 400000 in
theorem next_ok (g : Nat) (ao : Option Addr) (len cap : Nat) (xs : List Bool) (n : Nat) (w : World) (hl : xs.length = len) (hcap : len ≤ cap) (hb : cap ≤ 9223372036854775807) (hr : Row w ao (bools xs))
    (hc : w.cell? ⟨g, 0, none⟩ = some (.slice ao len cap)) (hf : w.frozen? ⟨g, 0, none⟩ = false) (h1 : n ≤ 62) (h2 : n ≤ len) :
    Calls Try.prog 78 #[.pointer (some ⟨g, 0, none⟩), .int .i64 n] w (NextPost w g ao len cap xs n) := by
  have HL := Lib.hid hl
  have HT := Lib.hid (takeRes_ok (xs := xs) h1 (by omega))
  have e0 : bools (xs.drop n) = ((bools xs).drop n).take len := by
    rw [List.take_of_length_le (by rw [List.length_drop, length_bools]; omega)]; simp [bools, List.map_drop]
  have HE := Lib.hid e0
  clear hl e0
  go_enter Try.func78, Try.ntmps78
  go_wp2_with (go_at_call 90; refine (take_any _ _ _ xs _ _ _ HL.out hcap hb hr).mono ?_; rw [HT.out]; rintro e w' ⟨rfl, rfl⟩; simp only [two])
  · have hcn : cap = n := by assumption
    go_ret2
    refine ⟨ao, rfl, by simp, ?_, fun a' ha => ⟨a', ha, rfl⟩⟩
    rw [HE.out]
    exact hr.cut _ _ (fun _ h => by rw [length_bools, HL.out] at h; omega)
  · go_ret2
    refine ⟨ao.map (·.add n), rfl, rfl, ?_, fun a' ha => ?_⟩
    · rw [HE.out]
      exact hr.cut _ _ (fun _ _ => rfl)
    · cases ao with
      | none => cases ha
      | some b => cases ha; exact ⟨b, rfl, block_add _ _⟩

theorem heap_set0 {w : World} {g : Nat} {x y v : Value} {t : TypeId} (h : w.heap[g]? = some (.cells #[x, y] t (0, 0))) : (w.setCell ⟨g, 0, none⟩ v).heap[g]? = some (.cells #[v, y] t (0, 0)) := by
  have := heap_setCell_same w g 0 #[x, y] t v h
  simpa using this

theorem grown_set (w : World) (g : Nat) (o : Nat) (v : Value) : w.grownBy (w.setCell ⟨g, o, none⟩ v) (some g) :=
  ⟨rfl, rfl, rfl, by simp [World.setCell], fun k _ hk => Below.heap_setCell _ _ _ _ (fun e => hk (by rw [e]))⟩

/-- What is left behind a Take. -/
def leftBy (xs : List Bool) (n : Int) : List Bool := if (takeRes xs 0 n).2 = 0 then xs.drop n.toNat else xs

set_option maxHeartbeats 400000 in
theorem rdtake_any (B g : Nat) (xs : List Bool) (n : Int) (w : World) (h : Rd w B g xs) :
    Calls Try.prog 56 #[.pointer (some ⟨g, 0, none⟩), .int .i64 n] w fun e w' => e = .returned (two (takeRes xs 0 n)) ∧ Rd w' B g (leftBy xs n) ∧ w.grownBy w' (some g) := by
  obtain ⟨ao, cap, hh, hr, h1, h2, h3⟩ := h
  have hc : w.cell? ⟨g, 0, none⟩ = some (.slice ao xs.length cap) := by rw [cell_of_row w g 0 _ _ _ hh]; rfl
  have hc1 : w.cell? ⟨g, 1, none⟩ = some (.bool true) := by rw [cell_of_row w g 1 _ _ _ hh]; rfl
  have hf : w.frozen? ⟨g, 0, none⟩ = false := frozen_of_row w g 0 _ _ hh
  have HH := Lib.hid hh
  clear hh
  by_cases hok : 0 ≤ n ∧ n ≤ 62 ∧ n ≤ xs.length
  · obtain ⟨q, rfl⟩ := Int.eq_ofNat_of_zero_le hok.1
    have HT := Lib.hid (takeRes_ok (xs := xs) (n := q) (by omega) (by omega))
    have hq : q ≤ 62 := by omega
    have hq' : q ≤ xs.length := by omega
    clear hok
    go_enter Try.func56, Try.ntmps56
    go_wp2_with (go_at_call 78; refine (next_ok g ao _ cap xs q _ rfl h1 h2 hr hc hf hq hq').mono ?_; rintro e w' ⟨ao', rfl, rfl, hrow, hblk⟩; simp only [two])
    go_ret2
    have hg := grown_set w g 0 (.slice ao' (xs.length - q) (cap - q))
    have hne : ∀ a, ao' = some a → B ≤ a.block ∧ a.block ≠ g := by
      intro a ha
      obtain ⟨b, hb, hbb⟩ := hblk a ha
      rw [hbb]; exact h3 b hb
    refine ⟨by rw [HT.out]; rfl, ?_, hg⟩
    unfold leftBy
    rw [HT.out, if_pos rfl]
    exact ⟨_, cap - q, by rw [Int.toNat_natCast, List.length_drop]; exact heap_set0 HH.out, hrow.kept hg (fun a ha => (hne a ha).2), by simp; omega, by omega, hne⟩
  · have hE : ((takeRes xs 0 n).2 == 0) = false := by
      by_cases hh : n < 0 ∨ 62 < n
      · rw [takeRes_1 (by omega)]; rfl
      · rw [takeRes_2 (by omega) (by omega)]; rfl
    have HE := Lib.hid hE
    clear hE hok
    go_enter Try.func56, Try.ntmps56
    go_wp2_with (go_at_call 78; refine (next_err g ao _ cap xs n _ rfl h1 h2 hr hc HE.out).mono ?_; rintro e w' ⟨rfl, rfl⟩; simp only [two])
    go_ret2
    refine ⟨rfl, ?_, World.grownBy.refl _ _⟩
    unfold leftBy
    rw [if_neg (by have := HE.out; simpa using this)]
    exact ⟨ao, cap, HH.out, hr, h1, h2, h3⟩

set_option maxHeartbeats 400000 in
theorem rdtake_nil (n : Int) (w : World) : Calls Try.prog 56 #[.pointer none, .int .i64 n] w fun e w' => e = .returned (two (0, 2)) ∧ w = w' := by
  go_enter Try.func56, Try.ntmps56
  go_wp2
  go_ret2
  exact ⟨rfl, rfl⟩

set_option maxHeartbeats 400000 in
theorem rdtake_not (g : Nat) (n : Int) (w : World) (hc1 : w.cell? ⟨g, 1, none⟩ = some (.bool false)) :
    Calls Try.prog 56 #[.pointer (some ⟨g, 0, none⟩), .int .i64 n] w fun e w' => e = .returned (two (0, 2)) ∧ w = w' := by
  go_enter Try.func56, Try.ntmps56
  go_wp2
  go_ret2
  exact ⟨rfl, rfl⟩

set_option maxHeartbeats 400000 in
theorem newReader_any (ao : Option Addr) (len cap : Nat) (xs : List Bool) (w : World) (hl : xs.length = len) (hb : len ≤ 1048576) (hn0 : ao = none → cap = 0) (hr : Row w ao (bools xs)) :
    Calls Try.prog 54 #[.slice ao len cap] w fun e w' => ∃ g, e = .returned (.pointer (some ⟨g, 0, none⟩)) ∧ Rd w' w.heap.size g xs ∧ w.heap.size ≤ g ∧ Ext w w' := by
  have HL := Lib.hid hl
  have hle : xs.length ≤ len := by omega
  clear hl
  go_enter Try.func54, Try.ntmps54
  go_wp2_with (at_builtin; refine wpList_pushAll (ws := w) rfl _ _ 40 rfl w.heap.size 4 (.bool false) 1 Try.infoBool rfl Try.underlying40 _ rfl 0 [] (World.ownsRow_nil _ _ _ _) _ _ _ rfl (bools xs) hr (by rw [length_bools]; exact HL.out) hn0 (bools_oneCell _) (by omega) (by omega) (Below.refl _ _) (Nat.le_refl _) ?_)
  intro s1 w1 hown1 hb1 _
  try simp only [Nat.zero_add, List.nil_append] at hown1
  obtain ⟨ao', cap', rfl, h1, h2, h3, hrow⟩ := own_row hown1
  go_wp2
  go_ret
  have hsz := hb1.size
  refine ⟨w1.heap.size, rfl, ⟨ao', cap', ?_, hrow.ext (Ext.alloc _ _), by have := HL.out; omega, by unfold maxLen at h2; omega, ?_⟩, hsz, hb1.alloc hsz _⟩
  · rw [HL.out]; exact heap_alloc_new _ _
  · intro a ha
    subst ha
    have := hown1.lt a.block rfl
    exact ⟨this.1, by omega⟩

theorem Rd.keep {w w' : World} {B g : Nat} {xs : List Bool} (h : Rd w B g xs) (hB : B ≤ g) (hk : ∀ k, B ≤ k → k < w.heap.size → w'.heap[k]? = w.heap[k]?) : Rd w' B g xs := by
  obtain ⟨ao, cap, h1, h2, h3, h4, h5⟩ := h
  refine ⟨ao, cap, by rw [hk g hB (Array.getElem?_eq_some_iff.1 h1).1]; exact h1, ?_, h3, h4, h5⟩
  intro i v hi
  obtain ⟨a, ha, hc⟩ := h2 i v hi
  have hlt := World.block_lt_of_cell? w _ hc
  refine ⟨a, ha, (World.cell?_of_block (w := w) (hk _ ?_ hlt)).trans hc⟩
  rw [block_add]
  exact (h5 a ha).1

theorem Rd.ext {w w' : World} {B g : Nat} {xs : List Bool} (h : Rd w B g xs) (hx : Ext w w') : Rd w' B g xs := by
  obtain ⟨ao, cap, h1, h2, h3⟩ := h
  refine ⟨ao, cap, ?_, h2.ext hx, h3⟩
  rw [hx.block g (Array.getElem?_eq_some_iff.1 h1).1]
  exact h1

end Go.Proofs.Ythebfpolijajgaa
