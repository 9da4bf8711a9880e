/-
  The contract of modes.Best.
  Conditions: the slice's cells are those of the list.
-/
import Derived.Test.YthebfpolijajgaaBestF
namespace Go.Proofs.Ythebfpolijajgaa
open Go.RowKit Go.Bs Go.Mode

def three (a b c : Nat) : Nat → Nat := fun x => if x = 0 then a else if x = 1 then b else c
def ptrs (G : Nat → Nat) : Array Value := #[.pointer (some ⟨G 0, 0, none⟩), .pointer (some ⟨G 1, 0, none⟩), .pointer (some ⟨G 2, 0, none⟩)]
/-- What lies in memory when i windows have been brought to place a and the table is filled from ta on. -/
structure BSt (w wr : World) (G H : Nat → Nat) (k n : Nat) (p : List UInt8) (gp gw a i ta : Nat) (Q : Nat → Nat → List Nat) : Prop where
  ext : Ext w wr
  ap : Apart w.heap.size G H gp gw
  wins : Wins wr G H k n a p i Q
  tab : Tab wr gp n ta (planAt k p)
  arr : wr.heap[gw]? = some (.cells (ptrs G) 93 (0, 0))

theorem lt_of_some {w : World} {g : Nat} {o : Obj} (h : w.heap[g]? = some o) : g < w.heap.size := (Array.getElem?_eq_some_iff.1 h).1

theorem BSt.ofExt {w wr w2 : World} {G H : Nat → Nat} {k n : Nat} {p : List UInt8} {gp gw a i ta : Nat} {Q : Nat → Nat → List Nat} (x : BSt w wr G H k n p gp gw a i ta Q) (h : Ext wr w2) : BSt w w2 G H k n p gp gw a i ta Q :=
  ⟨x.ext.trans h, x.ap, x.wins.kept fun y hy => ⟨h.block _ (x.wins.win y hy).lt.1, h.block _ (x.wins.win y hy).lt.2⟩, x.tab.kept (h.block _ x.tab.lt), (h.block _ (lt_of_some x.arr)).trans x.arr⟩

/-- A block that is none of these changes. -/
theorem BSt.other {w wr w2 : World} {G H : Nat → Nat} {k n : Nat} {p : List UInt8} {gp gw a i ta g : Nat} {Q : Nat → Nat → List Nat} (x : BSt w wr G H k n p gp gw a i ta Q) (h : Mod g g wr w2) (hg : w.heap.size ≤ g) (h1 : g ≠ gp ∧ g ≠ gw) (h2 : ∀ y, y < 3 → G y ≠ g ∧ H y ≠ g) : BSt w w2 G H k n p gp gw a i ta Q := by
  have hs := x.ext.size
  refine ⟨⟨h.os.trans x.ext.os, h.tape.trans x.ext.tape, h.output.trans x.ext.output, Nat.le_trans hs h.size, fun j hj => (h.block j (by omega) (by omega) (by omega)).trans (x.ext.block j hj)⟩, x.ap, x.wins.kept fun y hy => ?_, x.tab.kept (h.block _ x.tab.lt (fun e => h1.1 e.symm) (fun e => h1.1 e.symm)), (h.block _ (lt_of_some x.arr) (fun e => h1.2 e.symm) (fun e => h1.2 e.symm)).trans x.arr⟩
  exact ⟨h.block _ (x.wins.win y hy).lt.1 (h2 y hy).1 (h2 y hy).1, h.block _ (x.wins.win y hy).lt.2 (h2 y hy).2 (h2 y hy).2⟩

theorem BSt.step {w wr w2 : World} {G H : Nat → Nat} {k n : Nat} {p : List UInt8} {gp gw a i ta : Nat} {Q : Nat → Nat → List Nat} (x : BSt w wr G H k n p gp gw a i ta Q) (hi : i < 3) (hm : Mod (G i) (H i) wr w2) (Qi : Nat → List Nat)
    (hw : WinE w2 (G i) (H i) (md i) k n a Qi) (hq : ∀ j, j < 3 → QInv (md i) (planAt k p) p (2 ^ cntB (md i) k - 1) a j (Qi j)) : BSt w w2 G H k n p gp gw a (i + 1) ta (upd Q i Qi) := by
  have hs := x.ext.size
  have hu := x.ap.up i hi
  have hp := x.ap.pg i hi
  exact ⟨⟨hm.os.trans x.ext.os, hm.tape.trans x.ext.tape, hm.output.trans x.ext.output, Nat.le_trans hs hm.size, fun j hj => (hm.block j (by omega) (by omega) (by omega)).trans (x.ext.block j hj)⟩, x.ap, x.wins.step x.ap hi hm Qi hw hq,
    x.tab.kept (hm.block _ x.tab.lt hp.1 hp.2.1), (hm.block _ (lt_of_some x.arr) hp.2.2.1 hp.2.2.2).trans x.arr⟩

theorem BSt.next {w wr : World} {G H : Nat → Nat} {k n : Nat} {p : List UInt8} {gp gw a ta : Nat} {Q : Nat → Nat → List Nat} (x : BSt w wr G H k n p gp gw (a + 1) 3 ta Q) : BSt w wr G H k n p gp gw a 0 ta Q :=
  ⟨x.ext, x.ap, x.wins.next, x.tab, x.arr⟩

theorem BSt.stored {w wr w2 : World} {G H : Nat → Nat} {k n : Nat} {p : List UInt8} {gp gw a i ta tb : Nat} {Q : Nat → Nat → List Nat} (x : BSt w wr G H k n p gp gw a i ta Q) (h : Mod gp gp wr w2) (ht : Tab w2 gp n tb (planAt k p)) : BSt w w2 G H k n p gp gw a i tb Q := by
  have hs := x.ext.size
  have hb := x.ap.pb
  refine ⟨⟨h.os.trans x.ext.os, h.tape.trans x.ext.tape, h.output.trans x.ext.output, Nat.le_trans hs h.size, fun j hj => (h.block j (by omega) (by omega) (by omega)).trans (x.ext.block j hj)⟩, x.ap, x.wins.kept fun y hy => ?_, ht, (h.block _ (lt_of_some x.arr) (fun e => x.ap.pw e.symm) (fun e => x.ap.pw e.symm)).trans x.arr⟩
  have hp := x.ap.pg y hy
  exact ⟨h.block _ (x.wins.win y hy).lt.1 (fun e => hp.1 e.symm) (fun e => hp.1 e.symm), h.block _ (x.wins.win y hy).lt.2 (fun e => hp.2.1 e.symm) (fun e => hp.2.1 e.symm)⟩

theorem BSt.start {w w1 w2 w3 w4 : World} {k n : Nat} {p : List UInt8} {gp g0 g1 g2 h0 h1 h2 : Nat} (hn : p.length = n) (hgp : gp = w.heap.size) (x1 : Ext w w1) (x2 : Ext w1 w2) (x3 : Ext w2 w3) (x4 : Ext w3 w4)
    (hT : w1.heap[gp]? = some (.cells (madeCells (Value.agg #[.int .i64 0, .int .i64 0, .int .i64 0, .int .i64 0]).cells ((n + 1) * 4)) 95 (0, 0)))
    (a0 : WinE w2 g0 h0 1 k n n (fun _ => [])) (a1 : WinE w3 g1 h1 2 k n n (fun _ => [])) (a2 : WinE w4 g2 h2 4 k n n (fun _ => []))
    (b0 : w1.heap.size ≤ g0) (c0 : w1.heap.size ≤ h0) (b1 : w2.heap.size ≤ g1) (c1 : w2.heap.size ≤ h1) (b2 : w3.heap.size ≤ g2) (c2 : w3.heap.size ≤ h2) :
    BSt w (w4.alloc (.cells #[.pointer (some ⟨g0, 0, none⟩), .pointer (some ⟨g1, 0, none⟩), .pointer (some ⟨g2, 0, none⟩)] 93)) (three g0 g1 g2) (three h0 h1 h2) k n p gp w4.heap.size n 3 n (fun _ _ => []) := by
  have s1 := x1.size
  have s2 := x2.size
  have s3 := x3.size
  have s4 := x4.size
  have hlt := lt_of_some hT
  have l0 := a0.lt
  have l1 := a1.lt
  have l2 := a2.lt
  have n0 : g0 ≠ h0 := by obtain ⟨_, _, X⟩ := a0; exact X.ne
  have n1 : g1 ≠ h1 := by obtain ⟨_, _, X⟩ := a1; exact X.ne
  have n2 : g2 ≠ h2 := by obtain ⟨_, _, X⟩ := a2; exact X.ne
  have x5 := Ext.alloc w4 (.cells #[.pointer (some ⟨g0, 0, none⟩), .pointer (some ⟨g1, 0, none⟩), .pointer (some ⟨g2, 0, none⟩)] 93)
  have e24 := x3.trans (x4.trans x5)
  have e34 := x4.trans x5
  have cases3 : ∀ x, x < 3 → x = 0 ∨ x = 1 ∨ x = 2 := by omega
  refine ⟨(x1.trans x2).trans e24, ⟨?_, ?_, ?_, by omega, ?_, by omega⟩, ⟨?_, ?_⟩, ?_, ?_⟩
  · intro x y hx hy hxy
    rcases cases3 x hx with rfl | rfl | rfl <;> rcases cases3 y hy with rfl | rfl | rfl <;> simp [three] <;> omega
  · intro x hx
    rcases cases3 x hx with rfl | rfl | rfl <;> simp [three] <;> omega
  · intro x hx
    rcases cases3 x hx with rfl | rfl | rfl <;> simp [three] <;> omega
  · intro x hx
    rcases cases3 x hx with rfl | rfl | rfl <;> simp [three] <;> omega
  · intro x hx
    rw [if_pos hx]
    rcases cases3 x hx with rfl | rfl | rfl
    · exact a0.kept (e24.block _ l0.1) (e24.block _ l0.2)
    · exact a1.kept (e34.block _ l1.1) (e34.block _ l1.2)
    · exact a2.kept (x5.block _ l2.1) (x5.block _ l2.2)
  · intro x hx j hj
    rw [if_pos hx, ← hn]
    exact QInv.start _ _ _ _ _
  · refine Tab.made (((x2.trans e24).block _ hlt).trans hT) ?_
    unfold planAt
    rw [List.drop_of_length_le (by omega)]
    exact plan_nil k
  · exact heap_alloc_new _ _

theorem ptrs_at (G : Nat → Nat) (x : Nat) (hx : x < 3) : (ptrs G)[x]? = some (.pointer (some ⟨G x, 0, none⟩)) := by
  have : x = 0 ∨ x = 1 ∨ x = 2 := by omega
  rcases this with rfl | rfl | rfl <;> rfl
theorem ptrs_row {w : World} {g : Nat} {G : Nat → Nat} {t : TypeId} (h : w.heap[g]? = some (.cells (ptrs G) t (0, 0))) : Row w (some ⟨g, 0, none⟩) (ptrs G).toList := by
  have := Row.block h 0 3
  simpa [ptrs] using this
theorem plC_row {w : World} {g : Nat} {b : Pl} {t : TypeId} (h : w.heap[g]? = some (.cells (plC b) t (0, 0))) : Row w (some ⟨g, 0, none⟩) (plC b).toList := by
  have := Row.block h 0 4
  simpa [plC] using this

/-- The new place fits: the queues after a push. -/
theorem push_inv {m : Int} {F : Nat → Pl} {p : List UInt8} {lim a : Nat} {Q : Nat → List Nat} (h : ∀ j, j < 3 → QInv m F p lim (a + 1) j (Q j)) (ha : a < p.length) (hf : fitsB m p[a] = true) (j i : Nat) (hj : (a + 1) % unitN m = j)
    (hi : i ≤ (Q j).length) (hgone : ∀ x b, (Q j)[x]? = some b → i ≤ x → gtW m F b (a + 1)) (hlast : ∀ b, 0 < i → (Q j)[i - 1]? = some b → ¬ gtW m F b (a + 1)) :
    ∀ y, y < 3 → QInv m F p lim a y (upd Q j ((Q j).take i ++ [a + 1]) y) := by
  intro y hy
  unfold upd
  by_cases e : y = j
  · subst e
    rw [if_pos rfl]
    exact (h y hy).push ha hf hj i hi (fun x hx hix => hgone x _ (List.getElem?_eq_getElem hx) hix) (fun h0 => hlast _ h0 (List.getElem?_eq_getElem (by omega)))
  · rw [if_neg e]
    exact (h y hy).other ha hf (by omega)

/-- The best one so far, of the modes before x. -/
def Sofar (k : Nat) (p : List UInt8) (a x : Nat) (d : Pl) : Prop := ∃ y, y < x ∧ ∃ j, j < 3 ∧ CandJ (md y) (planAt k p) p k a j d
theorem sofar_succ (k : Nat) (p : List UInt8) (a x : Nat) (d : Pl) : Sofar k p a (x + 1) d ↔ Sofar k p a x d ∨ ∃ j, j < 3 ∧ CandJ (md x) (planAt k p) p k a j d := by
  constructor
  · rintro ⟨y, hy, h⟩
    by_cases e : y = x
    · subst e; exact Or.inr h
    · exact Or.inl ⟨y, by omega, h⟩
  · rintro (⟨y, hy, h⟩ | h)
    · exact ⟨y, by omega, h⟩
    · exact ⟨x, by omega, h⟩
theorem sofar_all {k : Nat} {p : List UInt8} {a : Nat} {b : Pl} (ha : a < p.length) (h : LeastOf (Sofar k p a 3) topP b) : b = planAt k p a :=
  plan_unique k (p.drop a) b topP (by intro e; have := congrArg List.length e; simp at this; omega) (h.congr fun d => isCand_iff k p a d)

theorem RetBest.own {w w' : World} {B g : Nat} {e : TypeId} {v : Value} {cells : List Value} {l : List SegD} {n c : Int} (h : w'.ownsRow B e 2 v l.length cells) (hB : w.heap.size ≤ B) (hs : SegCells w.heap.size w' g v cells l) (hx : Ext w w') :
    RetBest w l n c (.returned (.tuple #[v, .int .i64 n, .int .i64 c])) w' := by
  rcases h.2 with ⟨rfl, hn⟩ | ⟨g', cap, cur, rfl, hb, hg, hnc, hcm, hcs, htake⟩
  · obtain rfl := List.eq_nil_of_length_eq_zero hn
    exact ⟨none, 0, rfl, SegsN.nil _ _ _, Nat.le_refl _, by decide, hx⟩
  · refine ⟨some ⟨g', 0, none⟩, cap, rfl, ?_, hnc, by unfold maxLen at hcm; omega, hx⟩
    intro i p hi
    obtain ⟨u, h1, h2, ao, cp, h3, h4, h5, h6, h7, h8⟩ := hs i p hi
    have hi' : i < l.length := (List.getElem?_eq_some_iff.1 hi).1
    refine ⟨g', 0, u, rfl, Nat.le_trans hB hb, ?_, ?_, ao, cp, h3, h4, h5, h6, h7, fun a ha => (h8 a ha).2.2.2⟩
    · rw [Nat.zero_add, h.cellAt (i * 2) (by omega)]; exact h1
    · rw [Nat.zero_add, h.cellAt (i * 2 + 1) (by omega)]; exact h2

theorem planAt_more (k : Nat) (p : List UInt8) (a : Nat) (ha : a < p.length) : 1 ≤ (planAt k p a).len ∧ a + (planAt k p a).len ≤ p.length := by
  have h := plan_bd k (p.drop a).length (p.drop a) rfl
  have h2 := h.2.2.2.2.2 (by simp; omega)
  have h3 := h.2.2.1
  simp at h3
  exact ⟨h2.1, by unfold planAt; omega⟩
theorem best_step (k : Nat) (p : List UInt8) (a : Nat) (ha : a < p.length) : bestL k (p.drop a) = ((planAt k p a).mode, (p.drop a).take (planAt k p a).len) :: bestL k (p.drop (a + (planAt k p a).len)) := by
  rw [bestL_cons k (p.drop a) (by intro e; have := congrArg List.length e; simp at this; omega), List.drop_drop]
  rfl

set_option maxRecDepth 20000 in
set_option maxHeartbeats 3200000 in
theorem best_any (ao : Option Addr) (len cap : Nat) (p : List UInt8) (c : Int) (w : World) (hl : p.length = len) (hlc : len ≤ cap) (hb : cap ≤ 9223372036854775807) (hn0 : ao = none → cap = 0) (hr : Row w ao (byts p)) :
    Calls Try.prog 26 #[.slice ao len cap, .int .i64 c] w (RetBest w (bestRes p c).1 (bestRes p c).2.1 (bestRes p c).2.2) := by
  have HL := Lib.hid hl
  rcases class_cases c with hcc | ⟨hcc, hcc'⟩ | hcc
  · rw [show bestRes p c = ([], 0, 1) from by unfold bestRes; rw [if_pos (Or.inl hcc)]]
    clear hl
    go_enter Try.func26, Try.ntmps26
    go_wp2_with fail
    go_ret3
    exact RetBest.nil _ _ _ (Ext.refl _)
  · rw [show bestRes p c = ([], 0, 1) from by unfold bestRes; rw [if_pos (Or.inr hcc')]]
    clear hl
    go_enter Try.func26, Try.ntmps26
    go_wp2_with fail
    go_ret3
    exact RetBest.nil _ _ _ (Ext.refl _)
  · obtain ⟨k, rfl, hk⟩ : ∃ k : Nat, c = k ∧ k ≤ 2 := ⟨c.toNat, by omega, by omega⟩
    clear hcc
    by_cases hbig : 4096 < len
    · rw [show bestRes p k = ([], 0, 4) from by unfold bestRes; rw [if_neg (by omega), if_pos (by omega)]]
      clear hl
      go_enter Try.func26, Try.ntmps26
      go_wp2_with fail
      go_ret3
      exact RetBest.nil _ _ _ (Ext.refl _)
    · rw [show bestRes p k = (bestL k p, ((plan k p).bits : Int), 0) from by unfold bestRes; rw [if_neg (by omega), if_neg (by omega)]; simp]
      simp only
      have hn : len ≤ 4096 := by omega
      have HR := Lib.hid hr
      have HN0 := Lib.hid hn0
      clear hl hbig hr hn0
      go_enter Try.func26, Try.ntmps26
      go_upto_region 7 with (at_make; refine wpList_makeTab rfl _ _ 90 rfl 95 _ 4 32 Try.infoPlan Try.underlying90 _ _ (len + 1) (len + 1) rfl rfl (Nat.le_refl _) (by omega) (by omega) ?_; intro w1 HT1 HX1)
      obtain ⟨gp, hgp⟩ : ∃ gp, gp = w.heap.size := ⟨_, rfl⟩
      rw [← hgp] at HT1 ⊢
      have HGP := Lib.hid hgp
      clear hgp
      go_wp2_with fail
      refine (newWindow_any 1 k len w1 rfl hk hn).mono ?_
      rintro e w2 ⟨g0, h0, rfl, hw0, hx2, hg0, hh0⟩
      have HW0 := Lib.hid hw0
      have HX2 := Lib.hid hx2
      clear hw0 hx2
      go_wp2_with fail
      refine (newWindow_any 2 k len w2 rfl hk hn).mono ?_
      rintro e w3 ⟨g1, h1, rfl, hw1, hx3, hg1, hh1⟩
      have HW1 := Lib.hid hw1
      have HX3 := Lib.hid hx3
      clear hw1 hx3
      go_wp2_with fail
      refine (newWindow_any 4 k len w3 rfl hk hn).mono ?_
      rintro e w4 ⟨g2, h2, rfl, hw2, hx4, hg2, hh2⟩
      have HW2 := Lib.hid hw2
      have HX4 := Lib.hid hx4
      clear hw2 hx4
      go_wp2_with fail
      have HB := Lib.hid (BSt.start (p := p) HL.out HGP.out HX1.out HX2.out HX3.out HX4.out HT1.out HW0.out HW1.out HW2.out hg0 hh0 hg1 hh1 hg2 hh2)
      obtain ⟨gw, hgw⟩ : ∃ gw, gw = w4.heap.size := ⟨_, rfl⟩
      rw [← hgw] at HB ⊢
      generalize World.alloc w4 _ = w5 at HB ⊢
      clear hgw hg0 hh0 hg1 hh1 hg2 hh2 HW0 HW1 HW2 HX1 HX2 HX3 HX4 HT1 HGP
      generalize three g0 g1 g2 = G at HB
      generalize three h0 h1 h2 = H at HB

      go_loopw [10, 11, 13] (fun t _ _ wr => ∃ (a : Nat) (Q : Nat → Nat → List Nat), a ≤ len ∧ t = .int .i64 ((a : Int) - 1) ∧ Hid (BSt w wr G H k len p gp gw a 3 a Q)) (fun t _ _ _ => ((intOf t) + 1).toNat)
      case atStart => exact ⟨len, _, Nat.le_refl _, rfl, HB⟩
      case round =>
        clear HB
        obtain ⟨a, Q, ha, rfl, HB⟩ := hrel
        rcases Nat.eq_zero_or_pos a with ha0 | ha0
        · subst ha0
          have HTB := Lib.hid HB.out.tab
          have HXS := Lib.hid HB.out.ext
          obtain ⟨wS, rfl⟩ : ∃ wS, wS = wr := ⟨_, rfl⟩
          clear HB ha
          have hsg : (planAt k p 0).seg ≤ 4096 := (planAt_bd k p (by rw [HL.out]; exact hn) 0).2
          have z1 : wS.cell? ⟨gp, 1, none⟩ = some (.int .i64 (planAt k p 0).seg) := by simpa using (HTB.out.row 0 (Nat.le_refl _) (by omega)).c1
          obtain ⟨sg, hsge⟩ : ∃ sg, sg = (planAt k p 0).seg := ⟨_, rfl⟩
          rw [← hsge] at hsg z1
          clear hsge
          have hae : (((0 : Nat) : Int) - 1) = -1 := rfl
          rw [hae]
          go_wp2_with (at_make; refine wpList_makeSegs rfl _ _ 25 rfl wS.heap.size (Nat.le_refl _) 33 _ 2 32 Try.infoSeg Try.underlying25 _ _ sg rfl rfl (by omega) (by omega) ?_; intro w1 hown1 HX1)
          go_loopw [14, 15, 16] (fun v t _ wy => ∃ (a : Nat) (l : List SegD) (cells : List Value), a ≤ len ∧ t = .int .i64 a ∧ l.length ≤ a ∧ wy.ownsRow wS.heap.size 33 2 v l.length cells ∧ Hid (SegCells w.heap.size wy gp v cells l) ∧ Hid (l ++ bestL k (p.drop a) = bestL k p) ∧ Hid (Keep wS (.slice none 0 0) wy v)) (fun _ t _ _ => len - (intOf t).toNat)
          case atStart => exact ⟨0, [], [], by omega, rfl, Nat.le_refl _, hown1, SegCells.nil _ _ _ _, rfl, Keep.made HX1.out (fun k' hk' => by simp [Value.ownBlock] at hk'; omega)⟩
          case round =>
            clear hown1 HX1 z1
            obtain ⟨a, l, cells, ha, rfl, hla, hown, HSC, HBL, HK⟩ := hrel
            have HXY := Lib.hid (HK.out.toExt rfl)
            by_cases hal : a < len
            · have hap : a < p.length := by rw [HL.out]; exact hal
              obtain ⟨hq1, hq2⟩ := planAt_more k p a hap
              rw [HL.out] at hq2
              have HPA := Lib.hid ((HTB.out.row a (Nat.zero_le _) (by omega)).ext HXY.out)
              have z2 := HPA.out.c2
              have z3 := HPA.out.c3
              have HST := Lib.hid (best_step k p a hap)
              obtain ⟨M, hM⟩ : ∃ M, M = (planAt k p a).mode := ⟨_, rfl⟩
              obtain ⟨L, hL⟩ : ∃ L, L = (planAt k p a).len := ⟨_, rfl⟩
              have HZ2 := Lib.hid HPA.out.c2
              rw [← hM] at z3 HST
              rw [← hL] at z2 hq1 hq2 HST HZ2
              clear hM hL
              have HRY := Lib.hid (HR.out.ext (HXS.out.trans HXY.out))
              obtain ⟨ad, rfl, _⟩ := HRY.out.at (byts_at p a hap)
              have hdl : ((p.drop a).take L).length = L := by rw [List.length_take, List.length_drop, HL.out]; omega
              have hcapa : a < cap := by omega
              obtain ⟨D, hD⟩ : ∃ D, D = (p.drop a).take L := ⟨_, rfl⟩
              have HDR : Hid (∀ ao', ao' = (some ad : Option Addr).map (·.add a) → Row wr ao' (byts D)) := by
                intro ao' h'
                rw [hD, byts_cut]
                exact HRY.out.cut a L (fun _ _ => h')
              rw [← hD] at hdl HST
              have HDL := Lib.hid hdl
              clear hD hdl
              have HSZ0 : Hid (wS.heap.size ≤ wr.heap.size) := HXY.out.size
              go_upto_region 26 with (at_builtin; refine wpList_app rfl _ _ 22 rfl wr.heap.size 5 (.int .u8 0) 1 1 Try.infoByte rfl (by decide) Try.underlying22 _ rfl 0 [] (World.ownsRow_nil _ _ _ _) _ _ _ rfl (byts D) (HDR.out _ rfl) (by rw [length_byts, HDL.out]; omega) (fun h => by cases h) (byts_oneCell _) (by omega) (by omega) (Nat.le_refl _) ?_; intro s5 w5 hown5 hk5)
              have hx5 : Ext wr w5 := hk5.toExt rfl
              have hown5' : w5.ownsRow wr.heap.size 5 1 s5 L (byts D) := by
                rw [show 0 + (a + L - a) = L by omega, List.nil_append] at hown5
                exact hown5
              clear hown5 hk5
              obtain ⟨so5, sc5, rfl, hso5, hsm5, _, hsr5⟩ := own_row hown5'
              have HDA : Hid (DatA w.heap.size w5 gp u14 (.slice so5 L sc5) D) := by
                refine ⟨so5, sc5, by rw [HDL.out], hsr5, by rw [HDL.out]; exact hso5, by unfold maxLen at hsm5; omega, own_nil' hown5', ?_⟩
                intro b hb
                subst hb
                have h1 := hown5'.lt b.block rfl
                have h2 := HTB.out.lt
                have h3 := HXS.out.size
                have h4 := HSZ0.out
                refine ⟨by omega, ?_, h1.2, by omega⟩
                intro e
                have := (hown.lt b.block e).2
                omega
              have hown6 := own_extN hown hx5
              have HSC5 := Lib.hid (HSC.out.keep (KeepG.ofExt (g := gp) hx5 u14))
              have z3' := hx5.cell z3
              have HK5 := Lib.hid (HK.out.ext hx5)
              have HZ5 := Lib.hid (hx5.cell HZ2.out)
              have HC2 : Hid (cells.length = l.length * 2) := hown.1
              have HSZ5 : Hid (wS.heap.size ≤ w5.heap.size) := Nat.le_trans HSZ0.out hx5.size
              have HGPL : Hid (gp < wS.heap.size) := HTB.out.lt
              clear hown5' hsr5 z2 z3 hown HSC HK hx5
              go_wp2_with (at_builtin; refine wpList_pushK rfl _ _ 25 rfl wS.heap.size 33 (.agg #[.int .i64 0, .slice none 0 0]) 2 32 Try.infoSeg rfl (by decide) Try.underlying25 _ rfl _ _ hown6 [.int .i64 M, .slice so5 L sc5] rfl rfl (by simp [Value.oneCell']) (by omega) (by omega) HSZ5.out ?_; intro s4 w4 hown4 hk4; have q2 := hk4.cell HZ5.out (own_below hown6 HGPL.out))
              have HSC4 := Lib.hid ((HSC5.out.snoc (m := M) HC2.out HDA.out).keep (KeepG.ofKeep hk4))
              have hown4' : w4.ownsRow wS.heap.size 33 2 s4 (l ++ [(M, D)]).length (cells ++ [.int .i64 M, .slice so5 L sc5]) := by
                rw [List.length_append]; exact hown4
              refine ⟨⟨a + L, l ++ [(M, D)], _, by omega, int_eq (by omega), by rw [List.length_append]; simp; omega, hown4', HSC4, Lib.hid ?_, Lib.hid (HK5.out.trans hk4)⟩, by simp [intOf]; omega⟩
              have h1 := HBL.out
              rw [HST.out] at h1
              rw [List.append_assoc]
              exact h1
            · obtain rfl : a = len := by omega
              have z0 : wr.cell? ⟨gp, 0, none⟩ = some (.int .i64 (planAt k p 0).bits) := by simpa using (HXY.out.cell (HTB.out.row 0 (Nat.le_refl _) (by omega)).c0)
              go_wp2_with fail
              go_quiet (fail)
              go_wp2_with fail
              go_ret3
              have hpl : planAt k p 0 = plan k p := by unfold planAt; rw [List.drop_zero]
              have hfin : l = bestL k p := by
                have h1 := HBL.out
                rw [List.drop_of_length_le (by rw [HL.out]; exact Nat.le_refl _), bestL_nil, List.append_nil] at h1
                exact h1
              rw [← hfin, ← hpl]
              have hxn := (Ext.refl wr).drewN nq
              exact RetBest.own (own_extN hown hxn) HXS.out.size (HSC.out.keep (KeepG.ofExt hxn _)) ((HXS.out.trans HXY.out).trans hxn)
        · obtain ⟨a, rfl⟩ : ∃ a', a = a' + 1 := ⟨a - 1, by omega⟩
          clear ha0
          have hae : ((a + 1 : Nat) : Int) - 1 = (a : Int) := by omega
          rw [hae]
          have hal : a < p.length := by have := HL.out; omega
          go_upto_region 12 with fail
          have HB1 := Lib.hid (HB.out.next.ofExt (Ext.alloc wr (.cells #[.int .i64 9223372036854775807, .int .i64 0, .int .i64 0, .int .i64 0] 95)))
          have HGB : Hid ((wr.alloc (.cells #[.int .i64 9223372036854775807, .int .i64 0, .int .i64 0, .int .i64 0] 95)).heap[wr.heap.size]? = some (.cells (plC topP) 95 (0, 0))) := heap_alloc_new _ _
          obtain ⟨gb, hgb⟩ : ∃ gb, gb = wr.heap.size := ⟨_, rfl⟩
          have HGN : Hid (w.heap.size ≤ gb ∧ (gb ≠ gp ∧ gb ≠ gw) ∧ ∀ y, y < 3 → G y ≠ gb ∧ H y ≠ gb) := by
            have h1 := HB.out.ext.size
            have h2 := HB.out.tab.lt
            have h3 := lt_of_some HB.out.arr
            refine ⟨by omega, by omega, fun y hy => ?_⟩
            have h4 := (HB.out.wins.win y hy).lt
            omega
          rw [← hgb] at HGB ⊢
          generalize World.alloc wr _ = wa at HB1 HGB ⊢
          clear hgb HB
          have HAR := Lib.hid (ptrs_row HB1.out.arr)
          go_wp2_with ((with_reducible show wpList _ _ _ (⟨some 47, _, _, _, _, _⟩ :: _) _ _); refine wpList_loadAgg rfl 93 _ rfl _ Try.underlying93 rfl _ rfl _ HAR.out (by kernel_rfl) ?_)
          go_loopw [13, 48] (fun _ i wx => ∃ (x : Nat) (Q : Nat → Nat → List Nat) (b : Pl), x ≤ 3 ∧ i = .int .i64 x ∧ Hid (BSt w wx G H k len p gp gw a x (a + 1) Q) ∧ Hid (wx.heap[gb]? = some (.cells (plC b) 95 (0, 0))) ∧ Hid (LeastOf (Sofar k p a x) topP b)) (fun _ i _ => 3 - (intOf i).toNat)
          case atStart => exact ⟨0, _, topP, by omega, rfl, HB1, HGB, LeastOf.empty fun d h => by obtain ⟨y, hy, _⟩ := h; omega⟩
          case round =>
            clear HB1 HGB HAR
            obtain ⟨x, Q, b, hx, rfl, HB, HGB, HLO⟩ := hrel
            by_cases hx3 : x < 3
            · have hxi : (x : Int) < 3 := by omega
              have z0 := (HB.out.wins.win x hx3).mode
              obtain ⟨ad, rfl, hcb⟩ := (HR.out.ext HB.out.ext).at (byts_at p a hal)
              have HFA := fun W => Lib.hid (fits_any (md x) p[a] W)
              have HPI := Lib.hid (ptrs_at G x hx3)
              cases hfi : fitsB (md x) p[a]
              · simp only [hfi] at HFA
                have HFI := Lib.hid hfi
                clear hfi
                go_wp2_with ((with_reducible show wpList _ _ _ (⟨some 50, _, _, _, _, _⟩ :: _) _ _); refine wpList_indexPtr rfl 93 _ _ rfl 3 _ _ Try.underlying93 Try.underlying91 (by kernel_rfl) _ rfl _ x rfl hx3 _ HPI.out ?_)
                go_quiet ((go_at_call 38; exact quiet_same (HFA _).out))
                go_wp2_with fail
                refine (clear_any (G x) (H x) (md x) k len (a + 1) (Q x) _ ?_).mono ?_
                · have := HB.out.wins.win x hx3
                  rw [if_neg (Nat.lt_irrefl _)] at this
                  exact this.kept rfl rfl
                · rintro e w7 ⟨rfl, hw7, hm7⟩
                  go_wp2_with fail
                  have hgn := HGN.out.2.2 x hx3
                  refine ⟨⟨x + 1, upd Q x (fun _ => []), b, by omega, by rw [Int.natCast_succ], Lib.hid ?_, Lib.hid ?_, Lib.hid ?_⟩, by simp [intOf]; omega⟩
                  · exact (HB.out.ofExt ((Ext.refl _).drewN nq)).step hx3 hm7 _ hw7.less (fun j _ => QInv.clear _ _ _ _ _ _ hal HFI.out)
                  · exact (hm7.block gb (lt_of_some HGB.out) (fun e => hgn.1 e.symm) (fun e => hgn.2 e.symm)).trans HGB.out
                  · exact HLO.out.congr fun d => by rw [sofar_succ]; exact ⟨fun h => h.elim id (fun ⟨j, _, h⟩ => absurd h (candJ_none hal HFI.out)), Or.inl⟩
              · simp only [hfi] at HFA
                have HFI := Lib.hid hfi
                clear hfi
                go_wp2_with ((with_reducible show wpList _ _ _ (⟨some 50, _, _, _, _, _⟩ :: _) _ _); refine wpList_indexPtr rfl 93 _ _ rfl 3 _ _ Try.underlying93 Try.underlying91 (by kernel_rfl) _ rfl _ x rfl hx3 _ HPI.out ?_)
                go_quiet ((go_at_call 38; exact quiet_same (HFA _).out))
                go_wp2_with fail
                obtain ⟨j, hj⟩ : ∃ j, (a + 1) % unitN (md x) = j := ⟨_, rfl⟩
                have hj3 : j < 3 := by have := Nat.mod_lt (a + 1) (unit_pos (md x)); have := unit_le (md x); omega
                have HB2 := Lib.hid (HB.out.ofExt ((Ext.refl _).drewN nq))
                have HWN : Hid (WinE (wr.drewN nq) (G x) (H x) (md x) k len (a + 1) (Q x)) := by
                  have := HB2.out.wins.win x hx3
                  rw [if_neg (Nat.lt_irrefl _)] at this
                  exact this
                have HQI : Hid (∀ j, j < 3 → QInv (md x) (planAt k p) p (2 ^ cntB (md x) k - 1) (a + 1) j (Q x j)) := by
                  have := HB2.out.wins.inv x hx3
                  rw [if_neg (Nat.lt_irrefl _)] at this
                  exact this
                have HBD : Hid (∀ e, (planAt k p e).bits ≤ 1048576 ∧ (planAt k p e).seg ≤ 4096) := fun e => by have := planAt_bd k p (by rw [HL.out]; exact hn) e; omega
                have HPL := Lib.hid (HB2.out.tab.plans HBD.out)
                have hqb : ∀ y, y < 3 → ∀ e ∈ Q x y, a + 1 ≤ e ∧ e < len + 1 := fun y hy e he => by
                  have := ((HQI.out y hy).mem e he).1
                  have h2 := this.2.1
                  rw [HL.out] at h2
                  exact ⟨Nat.le_of_lt this.1, by omega⟩
                have hgn := HGN.out.2.2 x hx3
                have hpg := HB.out.ap.pg x hx3
                refine (push_any (G x) (H x) gp (a + 1) (md x) k len a (a + 1) j (Q x) (planAt k p) _ hj hn (by omega) (Nat.le_refl _) HWN.out HPL.out (hqb j hj3)).mono ?_
                rintro e w7 ⟨rfl, hm7, i, hi, hgone, hlast, hw7⟩
                have HPI2 := Lib.hid (push_inv HQI.out hal HFI.out j i hj hi hgone hlast)
                have HW7 := Lib.hid hw7
                have HM7 := Lib.hid hm7
                have HGB7 := Lib.hid ((hm7.block gb (lt_of_some HGB.out) (fun e => hgn.1 e.symm) (fun e => hgn.2 e.symm)).trans HGB.out)
                have HRB := Lib.hid (plC_row HGB7.out)
                have HPL7 : Hid (Plans w7 gp (len + 1) (a + 1) (planAt k p)) := (HB2.out.tab.kept (hm7.block gp HB2.out.tab.lt hpg.1 hpg.2.1)).plans HBD.out
                clear hw7 hm7 hgone hlast hi HPL HWN hqb
                generalize hQp : upd (Q x) j ((Q x j).take i ++ [a + 1]) = Qp at HPI2 HW7
                clear hQp
                go_wp2_with ((with_reducible show wpList _ _ _ (⟨some 71, _, _, _, _, _⟩ :: _) _ _); refine wpList_loadAgg rfl 95 _ rfl _ Try.underlying95 rfl _ rfl _ HRB.out (by kernel_rfl) ?_)
                refine (choose_any (G x) (H x) gp (a + 1) (md x) k len a a Qp (planAt k p) b _ (md_ok x) hk hn HW7.out HPL7.out ⟨hpg.1, hpg.2.1⟩ (fun y hy e he => ?_)).mono ?_
                · have := ((HPI2.out y hy).mem e he).1
                  have h2 := this.2.1
                  have h3 := this.1
                  rw [HL.out] at h2
                  exact ⟨by omega, by omega, h3⟩
                rintro e w8 ⟨Q8, hpop, rfl, hw8, hm8⟩
                have HPOP := Lib.hid hpop
                have HW8 := Lib.hid hw8
                have HGB8 := Lib.hid ((hm8.block gb (lt_of_some HGB7.out) (fun e => hgn.1 e.symm) (fun e => hgn.2 e.symm)).trans HGB7.out)
                have HM8 := Lib.hid (HM7.out.trans hm8)
                clear hpop hw8 hm8
                go_wp2_with ((with_reducible show wpList _ _ _ (⟨none, .store 95 _ _, _, _, _, _⟩ :: _) _ _); refine wpList_storeM rfl 95 _ _ rfl gb _ rfl rfl 95 _ HGB8.out (by kernel_rfl) (by kernel_rfl) (plC_one _) ?_; intro w9 H9 HM9)
                refine ⟨⟨x + 1, upd Q x Q8, _, by omega, by rw [Int.natCast_succ], Lib.hid ?_, H9, Lib.hid ?_⟩, by simp [intOf]; omega⟩
                · exact (HB2.out.step hx3 HM8.out Q8 HW8.out (fun y hy => Popped.inv (HPI2.out y hy) (HPOP.out y hy))).other HM9.out HGN.out.1 HGN.out.2.1 HGN.out.2.2
                · exact (picks_least (md_ok x) hk (fun e => (HBD.out e).1) (by rw [HL.out]; exact hn) HPI2.out HPOP.out HLO.out 3 (Nat.le_refl _)).congr fun d => sofar_succ k p a x d
            · obtain rfl : x = 3 := by omega
              obtain rfl : b = planAt k p a := sofar_all hal HLO.out
              have HRB := Lib.hid (plC_row HGB.out)
              have HTB := Lib.hid HB.out.tab
              clear HLO hx3 hx
              go_wp2_with (first
                | ((with_reducible show wpList _ _ _ (⟨some 76, _, _, _, _, _⟩ :: _) _ _); refine wpList_loadAgg rfl 95 _ rfl _ Try.underlying95 rfl _ rfl _ HRB.out (by kernel_rfl) ?_)
                | ((with_reducible show wpList _ _ _ (⟨none, .store 95 _ _, _, _, _, _⟩ :: _) _ _); refine wpList_storePlan rfl 95 _ _ rfl gp len a (planAt k p) (by simp [Act.eval]) rfl (by kernel_rfl) (by omega) HTB.out ?_; intro w9 H9 HM9))
              refine ⟨⟨a, Q, by omega, by rfl, Lib.hid (HB.out.stored HM9.out H9.out)⟩, by simp [intOf]⟩

end Go.Proofs.Ythebfpolijajgaa
