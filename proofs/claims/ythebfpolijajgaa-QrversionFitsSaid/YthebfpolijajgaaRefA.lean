/-
  The contracts of the reference's better, first and Best.
  Conditions: the slices' cells are those of the lists.
The contract of the reference's Best.
  Conditions: the slice's cells are those of the list.
-/
import Derived.Test.YthebfpolijajgaaBestC
import Derived.Test.YthebfpolijajgaaModeH
import Derived.Deep.RegionHeld3
namespace Go.Proofs.Ythebfpolijajgaa
open Go.RowKit Go.Bs Go.Mode

set_option maxRecDepth 20000 in
set_option maxHeartbeats 1600000 in
theorem rbetter_any (a b : Pl) (w : World) : Calls Try.prog 83 #[.agg (plC a), .agg (plC b)] w fun e w' => e = .returned (.bool (decide (a.lt b))) ∧ Ext w w' := by
  have HL : Hid (a.lt b ↔ (a.bits < b.bits ∨ (a.bits = b.bits ∧ (a.seg < b.seg ∨ (a.seg = b.seg ∧ (b.len < a.len ∨ (a.len = b.len ∧ a.mode < b.mode))))))) := Iff.rfl
  obtain ⟨a1, a2, a3, a4⟩ := a
  obtain ⟨b1, b2, b3, b4⟩ := b
  simp only at HL
  obtain ⟨L, hL⟩ : ∃ L, L = decide (Pl.lt ⟨a1, a2, a3, a4⟩ ⟨b1, b2, b3, b4⟩) := ⟨_, rfl⟩
  rw [← hL]
  have HLL : Hid (L = decide (a1 < b1 ∨ (a1 = b1 ∧ (a2 < b2 ∨ (a2 = b2 ∧ (b3 < a3 ∨ (a3 = b3 ∧ a4 < b4))))))) := by
    show _ = _
    rw [hL, decide_eq_decide]
    exact HL.out
  clear hL HL
  simp only [plC]
  by_cases h1 : a1 = b1
  · subst h1
    by_cases h2 : a2 = b2
    · subst h2
      by_cases h3 : a3 = b3
      · subst h3
        have HR : Hid (L = decide (a4 < b4)) := by show _ = _; rw [HLL.out, decide_eq_decide]; omega
        go_enter Try.func83, Try.ntmps83
        go_wp2_with fail
        go_ret
        exact ⟨by rw [HR.out]; rfl, (Ext.alloc _ _).trans (Ext.alloc _ _)⟩
      · have h3' : ((a3 : Int) != (b3 : Int)) = true := by simp; omega
        have HR : Hid (L = decide (b3 < a3)) := by show _ = _; rw [HLL.out, decide_eq_decide]; omega
        clear h3
        go_enter Try.func83, Try.ntmps83
        go_wp2_with fail
        go_ret
        exact ⟨by rw [HR.out]; rfl, (Ext.alloc _ _).trans (Ext.alloc _ _)⟩
    · have h3' : ((a2 : Int) != (b2 : Int)) = true := by simp; omega
      have HR : Hid (L = decide (a2 < b2)) := by show _ = _; rw [HLL.out, decide_eq_decide]; omega
      clear h2
      go_enter Try.func83, Try.ntmps83
      go_wp2_with fail
      go_ret
      exact ⟨by rw [HR.out]; rfl, (Ext.alloc _ _).trans (Ext.alloc _ _)⟩
  · have h3' : ((a1 : Int) != (b1 : Int)) = true := by simp; omega
    have HR : Hid (L = decide (a1 < b1)) := by show _ = _; rw [HLL.out, decide_eq_decide]; omega
    clear h1
    go_enter Try.func83, Try.ntmps83
    go_wp2_with fail
    go_ret
    exact ⟨by rw [HR.out]; rfl, (Ext.alloc _ _).trans (Ext.alloc _ _)⟩


/-- A run of j bytes from a place on that may be a segment of a mode. -/
def Run (m : Int) (k : Nat) (p : List UInt8) (a j : Nat) : Prop := 1 ≤ j ∧ a + j ≤ p.length ∧ j < 2 ^ cntB m k ∧ ∀ i c, a ≤ i → i < a + j → p[i]? = some c → fitsB m c = true
theorem Run.less {m : Int} {k : Nat} {p : List UInt8} {a j i : Nat} (h : Run m k p a j) (h1 : 1 ≤ i) (h2 : i ≤ j) : Run m k p a i :=
  ⟨h1, by have := h.2.1; omega, by have := h.2.2.1; omega, fun x c e1 e2 e3 => h.2.2.2 x c e1 (by omega) e3⟩
theorem isCand_run (k : Nat) (p : List UInt8) (a : Nat) (d : Pl) : IsCand k (p.drop a) d ↔ ∃ x, x < 3 ∧ ∃ j, Run (md x) k p a j ∧ d = candP (md x) k j (planAt k p (a + j)) := by
  rw [isCand_iff]
  constructor
  · rintro ⟨x, hx, r, _, e, ⟨h1, h2, h3⟩, _, h5, rfl⟩
    exact ⟨x, hx, e - a, ⟨by omega, by omega, h5, fun i c e1 e2 e3 => h3 i c e1 (by omega) e3⟩, by rw [Nat.add_sub_cancel' (by omega)]⟩
  · rintro ⟨x, hx, j, ⟨h1, h2, h3, h4⟩, rfl⟩
    refine ⟨x, hx, (a + j) % unitN (md x), by have := Nat.mod_lt (a + j) (unit_pos (md x)); have := unit_le (md x); omega, a + j, ⟨by omega, h2, h4⟩, rfl, by rw [Nat.add_sub_cancel_left]; exact h3, by rw [Nat.add_sub_cancel_left]⟩

/-- What has been tried: all of the modes before x, and of mode x the runs shorter than n. -/
def Tried (k : Nat) (p : List UInt8) (a x n : Nat) (d : Pl) : Prop := (∃ y, y < x ∧ ∃ j, Run (md y) k p a j ∧ d = candP (md y) k j (planAt k p (a + j))) ∨ ∃ j, 1 ≤ j ∧ j < n ∧ d = candP (md x) k j (planAt k p (a + j))
theorem tried_more (k : Nat) (p : List UInt8) (a x n : Nat) (hn : 1 ≤ n) (d : Pl) : Tried k p a x (n + 1) d ↔ Tried k p a x n d ∨ d = candP (md x) k n (planAt k p (a + n)) := by
  constructor
  · rintro (h | ⟨j, h1, h2, h3⟩)
    · exact Or.inl (Or.inl h)
    · by_cases e : j = n
      · subst e; exact Or.inr h3
      · exact Or.inl (Or.inr ⟨j, h1, by omega, h3⟩)
  · rintro ((h | ⟨j, h1, h2, h3⟩) | h)
    · exact Or.inl h
    · exact Or.inr ⟨j, h1, by omega, h3⟩
    · exact Or.inr ⟨n, hn, by omega, h⟩
theorem tried_next (k : Nat) (p : List UInt8) (a x n : Nat) (hr : ∀ j, 1 ≤ j → j < n → Run (md x) k p a j) (hs : ¬ Run (md x) k p a n) (hn : 1 ≤ n) (d : Pl) : Tried k p a (x + 1) 1 d ↔ Tried k p a x n d := by
  constructor
  · rintro (⟨y, hy, j, h1, h2⟩ | ⟨j, h1, h2, _⟩)
    · by_cases e : y = x
      · subst e
        by_cases hj : j < n
        · exact Or.inr ⟨j, h1.1, hj, h2⟩
        · exact absurd (h1.less hn (by omega)) hs
      · exact Or.inl ⟨y, by omega, j, h1, h2⟩
    · omega
  · rintro (⟨y, hy, h⟩ | ⟨j, h1, h2, h3⟩)
    · exact Or.inl ⟨y, by omega, h⟩
    · exact Or.inl ⟨x, by omega, j, hr j h1 h2, h3⟩
theorem tried_none (k : Nat) (p : List UInt8) (a : Nat) (d : Pl) : ¬ Tried k p a 0 1 d := by
  rintro (⟨y, hy, _⟩ | ⟨j, h1, h2, _⟩) <;> omega
theorem tried_all {k : Nat} {p : List UInt8} {a : Nat} {b : Pl} (ha : a < p.length) (h : LeastOf (Tried k p a 3 1) zeroP b) : b = planAt k p a := by
  refine plan_unique k (p.drop a) b zeroP (by intro e; have := congrArg List.length e; simp at this; omega) (h.congr fun d => ?_)
  rw [isCand_run]
  constructor
  · rintro ⟨x, hx, j, h1, h2⟩
    exact Or.inl ⟨x, hx, j, h1, h2⟩
  · rintro (h | ⟨j, h1, h2, _⟩)
    · exact h
    · omega
/-- A least one that has no length is none. -/
theorem tried_len {k : Nat} {p : List UInt8} {a x n : Nat} {b : Pl} (h : LeastOf (Tried k p a x n) zeroP b) (hb : b.len = 0) : ∀ d, ¬ Tried k p a x n d := by
  rcases h with ⟨_, h2⟩ | ⟨h1, _⟩
  · exact h2
  · exfalso
    rcases h1 with ⟨y, _, j, hj, rfl⟩ | ⟨j, hj, _, rfl⟩
    · have := hj.1; simp only [candP] at hb; omega
    · simp only [candP] at hb; omega
theorem tried_some {k : Nat} {p : List UInt8} {a x n : Nat} {b : Pl} (h : LeastOf (Tried k p a x n) zeroP b) (hb : b.len ≠ 0) : Tried k p a x n b := by
  rcases h with ⟨rfl, _⟩ | ⟨h1, _⟩
  · exact absurd rfl hb
  · exact h1

/-- The blocks of first's own. -/
structure FInv (w wr : World) (b : Pl) : Prop where
  ext : Ext w wr
  res : wr.heap[w.heap.size]? = some (.cells (plC zeroP) 103 (0, 0))
  best : wr.heap[w.heap.size + 1]? = some (.cells (plC b) 103 (0, 0))
  lit : wr.heap[w.heap.size + 2]? = some (.cells #[.int .i64 1, .int .i64 2, .int .i64 4] 31 (0, 0))
theorem FInv.on {w wr w2 : World} {b : Pl} (h : FInv w wr b) (hx : Ext wr w2) : FInv w w2 b :=
  ⟨h.ext.trans hx, (hx.block _ (lt_of_some h.res)).trans h.res, (hx.block _ (lt_of_some h.best)).trans h.best, (hx.block _ (lt_of_some h.lit)).trans h.lit⟩
theorem FInv.put {w wr w2 : World} {b b' : Pl} (h : FInv w wr b) (hm : Mod (w.heap.size + 1) (w.heap.size + 1) wr w2) (hb : w2.heap[w.heap.size + 1]? = some (.cells (plC b') 103 (0, 0))) : FInv w w2 b' := by
  have hs := h.ext.size
  exact ⟨⟨hm.os.trans h.ext.os, hm.tape.trans h.ext.tape, hm.output.trans h.ext.output, Nat.le_trans hs hm.size, fun j hj => (hm.block j (by omega) (by omega) (by omega)).trans (h.ext.block j hj)⟩,
    (hm.block _ (lt_of_some h.res) (by omega) (by omega)).trans h.res, hb, (hm.block _ (lt_of_some h.lit) (by omega) (by omega)).trans h.lit⟩
theorem md_lit (x : Nat) (hx : x < 3) : (#[Value.int .i64 1, .int .i64 2, .int .i64 4] : Array Value)[x]? = some (.int .i64 (md x)) := by
  have : x = 0 ∨ x = 1 ∨ x = 2 := by omega
  rcases this with rfl | rfl | rfl <;> rfl

set_option maxRecDepth 20000 in
set_option maxHeartbeats 3200000 in
theorem first_any (ao : Option Addr) (len cap : Nat) (p : List UInt8) (a k gr cr : Nat) (w : World) (hl : p.length = len) (_ : len ≤ cap) (_ : cap ≤ 9223372036854775807) (hr : Row w ao (byts p)) (hn : len ≤ 4096) (hk : k ≤ 2) (ha : a < len) (_ : len + 1 ≤ cr)
    (hT : ∀ e, a + 1 ≤ e → e < len + 1 → PlanAt w gr e (planAt k p e)) :
    Calls Try.prog 64 #[.slice ao len cap, .int .i64 a, .int .i64 k, .slice (some ⟨gr, 0, none⟩) (len + 1) cr] w fun e w' => e = .returned (.agg (plC (planAt k p a))) ∧ Ext w w' := by
  have HL := Lib.hid hl
  have HR := Lib.hid hr
  have HT := Lib.hid hT
  clear hl hr hT
  go_enter Try.func64, Try.ntmps64
  go_wp2_with fail
  have HF : Hid (FInv w (((w.alloc (.cells #[.int .i64 0, .int .i64 0, .int .i64 0, .int .i64 0] 103)).alloc (.cells #[.int .i64 0, .int .i64 0, .int .i64 0, .int .i64 0] 103)).alloc (.cells #[.int .i64 1, .int .i64 2, .int .i64 4] 31)) zeroP) := by
    refine Lib.hid ⟨((Ext.alloc _ _).trans (Ext.alloc _ _)).trans (Ext.alloc _ _), ?_, ?_, ?_⟩
    · exact Ext.new ((Ext.alloc _ _).trans (Ext.alloc _ _))
    · have h := heap_alloc_new (w.alloc (.cells #[.int .i64 0, .int .i64 0, .int .i64 0, .int .i64 0] 103)) (.cells #[.int .i64 0, .int .i64 0, .int .i64 0, .int .i64 0] 103)
      have h2 := (Ext.alloc _ (.cells #[.int .i64 1, .int .i64 2, .int .i64 4] 31)).old h
      simpa [plC, zeroP] using h2
    · have h := heap_alloc_new ((w.alloc (.cells #[.int .i64 0, .int .i64 0, .int .i64 0, .int .i64 0] 103)).alloc (.cells #[.int .i64 0, .int .i64 0, .int .i64 0, .int .i64 0] 103)) (.cells #[.int .i64 1, .int .i64 2, .int .i64 4] 31)
      simpa using h
  go_loopw [11, 12, 13, 14] (fun i _ _ _ wr => ∃ (x : Nat) (b : Pl), x ≤ 3 ∧ i = .int .i64 x ∧ Hid (FInv w wr b) ∧ Hid (LeastOf (Tried k p a x 1) zeroP b)) (fun i _ _ _ _ => 3 - (intOf i).toNat)
  case atStart => exact ⟨0, zeroP, by omega, rfl, HF, LeastOf.empty (tried_none k p a)⟩
  case round =>
    clear HF
    obtain ⟨x, b, hx, rfl, HF, HLO⟩ := hrel
    by_cases hx3 : x < 3
    · have z : wr.cell? ⟨w.heap.size + 2, x, none⟩ = some (.int .i64 (md x)) := by
        rw [cell_of_row wr _ _ _ _ _ HF.out.lit]
        exact md_lit x hx3
      have hxi : (x : Int) < 3 := by omega
      obtain ⟨m, hm⟩ : ∃ m, m = md x := ⟨_, rfl⟩
      rw [← hm] at z
      have HM := Lib.hid hm
      have HOK : Hid (okMode m = true) := by refine Lib.hid ?_; rw [hm]; exact md_ok x
      clear hm
      go_wp2_with fail
      go_loopw [13, 14] (fun i _ wr => ∃ (n : Nat) (b : Pl), 1 ≤ n ∧ a + n ≤ len + 1 ∧ i = .int .i64 n ∧ Hid (FInv w wr b) ∧ Hid (LeastOf (Tried k p a x n) zeroP b) ∧ Hid (∀ j, 1 ≤ j → j < n → Run m k p a j)) (fun i _ _ => len + 1 - (intOf i).toNat)
      case atStart => exact ⟨1, b, by omega, by omega, rfl, HF, HLO, fun j h1 h2 => absurd h2 (by omega)⟩
      case round =>
        clear HF HLO z
        obtain ⟨n, b, hn1, hn2, rfl, HF, HLO, HRUN⟩ := hrel
        by_cases hin : a + n ≤ len
        · have HMO := fun W => Lib.hid (most_any m k W HOK.out hk)
          obtain ⟨q, hq⟩ : ∃ q, q = a + n := ⟨_, rfl⟩
          obtain ⟨mo, hmo⟩ : ∃ mo, mo = 2 ^ cntB m k - 1 := ⟨_, rfl⟩
          rw [← hmo] at HMO
          have HMOE := Lib.hid hmo
          clear hmo
          have hqi : (a : Int) + (n : Int) = (q : Int) := by omega
          obtain ⟨r, hr⟩ : ∃ r, r = a + n - 1 := ⟨_, rfl⟩
          have hri : (q : Int) - 1 = (r : Int) := by omega
          have hrl : r < len := by omega
          have hql : q ≤ len := by omega
          have HQ := Lib.hid hq
          have HRR := Lib.hid hr
          clear hq hr
          by_cases hmx : n ≤ mo
          · have hrp : r < p.length := by rw [HL.out]; exact hrl
            obtain ⟨ad, rfl, hcb⟩ := (HR.out.ext HF.out.ext).at (byts_at p r hrp)
            have HFA := fun W => Lib.hid (rfits_any m p[r] W)
            cases hfi : fitsB m p[r]
            · have HNR : Hid (¬ Run m k p a n) := by
                intro h
                have := h.2.2.2 r p[r] (by have := HRR.out; omega) (by have := HRR.out; omega) (List.getElem?_eq_getElem hrp)
                rw [hfi] at this
                cases this
              simp only [hfi] at HFA
              clear hfi
              go_wp2_with fail
              refine (HMO _).out.mono ?_
              rintro e w' ⟨rfl, rfl⟩
              go_wp2_with fail
              refine (HFA _).out.mono ?_
              rintro e w' ⟨rfl, rfl⟩
              go_wp2_with fail
              exact ⟨⟨x + 1, b, by omega, by rw [Int.natCast_succ], HF, Lib.hid (HLO.out.congr (tried_next k p a x n (by rw [← HM.out]; exact HRUN.out) (by rw [← HM.out]; exact HNR.out) hn1))⟩, by simp [intOf]; omega⟩
            · have HRN : Hid (Run m k p a n) := by
                refine Lib.hid ⟨hn1, by rw [HL.out]; exact hin, by have := HMOE.out; have := Go.Mode.pow_cnt m k; omega, fun i c e1 e2 e3 => ?_⟩
                by_cases e : i = r
                · subst e
                  rw [List.getElem?_eq_getElem hrp] at e3
                  cases e3
                  exact hfi
                · have := HRR.out
                  exact (HRUN.out (n - 1) (by omega) (by omega)).2.2.2 i c e1 (by omega) e3
              simp only [hfi] at HFA
              clear hfi
              have HPA := (HT.out q (by have := HQ.out; omega) (by omega)).ext HF.out.ext
              have y0 := HPA.c0
              have y1 := HPA.c1
              have hbd := planAt_bd k p (by rw [HL.out]; exact hn) q
              obtain ⟨fe, hfe⟩ : ∃ fe, fe = planAt k p q := ⟨_, rfl⟩
              rw [← hfe] at y0 y1 hbd
              have HFE := Lib.hid hfe
              clear hfe HPA
              have HSZ := fun W => Lib.hid (rsegsize_any m k n W HOK.out hk (by omega))
              have hsb : segB m k n ≤ 100000 := by
                have h1 := cnt_le m k hk
                have h2 : dsize m n ≤ 8 * 4096 + 8 * 4096 := by
                  unfold dsize
                  split
                  · split <;> (try split) <;> omega
                  · split <;> omega
                unfold segB
                omega
              obtain ⟨D, hD⟩ : ∃ D, D = segB m k n := ⟨_, rfl⟩
              simp only [← hD] at HSZ
              rw [← hD] at hsb
              have HD := Lib.hid hD
              clear hD
              have s1 : IntKind.i64.wrap ((D : Int) + (fe.bits : Int)) = (D : Int) + (fe.bits : Int) := IntWalk.i64_in _ (by omega)
              have s2 : IntKind.i64.wrap (1 + (fe.seg : Int)) = 1 + (fe.seg : Int) := IntWalk.i64_in _ (by omega)
              have HCC : Hid (plC (candP m k n fe) = #[.int .i64 ((D : Int) + (fe.bits : Int)), .int .i64 (1 + (fe.seg : Int)), .int .i64 n, .int .i64 m]) := by
                refine Lib.hid ?_
                have e1 : ((segB m k n + fe.bits : Nat) : Int) = (D : Int) + (fe.bits : Int) := by rw [HD.out]; omega
                have e2 : ((fe.seg + 1 : Nat) : Int) = 1 + (fe.seg : Int) := by omega
                simp only [plC, candP, e1, e2]
              go_wp2_with fail
              refine (HMO _).out.mono ?_
              rintro e w' ⟨rfl, rfl⟩
              go_wp2_with fail
              refine (HFA _).out.mono ?_
              rintro e w' ⟨rfl, rfl⟩
              have hq0 : (0 : Int) ≤ (q : Int) := by omega
              have s0 : IntKind.i64.wrap ((a : Int) + (n : Int)) = (q : Int) := by rw [IntWalk.i64_in _ (by omega)]; exact hqi
              have s0' : IntKind.i64.wrap (q : Int) = (q : Int) := IntWalk.i64_in _ (by omega)
              have hq1 : (q : Int) < (len : Int) + 1 := by omega
              have hq2 : (q : Int) < ((len + 1 : Nat) : Int) := by omega
              go_upto_region 10 with fail
              go_region_held3 (fun W => Ext wr W ∧ W.cell? ⟨gr, q * 4, none⟩ = some (.int .i64 fe.bits) ∧ W.cell? ⟨gr, q * 4 + 1, none⟩ = some (.int .i64 fe.seg))
                (first
                | exact ⟨Ext.drew _, (Ext.drew _).cell y0, (Ext.drew _).cell y1⟩
                | exact ⟨(Ext.drew _).trans (Ext.alloc _ _), ((Ext.drew _).trans (Ext.alloc _ _)).cell y0, ((Ext.drew _).trans (Ext.alloc _ _)).cell y1⟩)
                (first
                | (go_at_call 52; (with_reducible refine (HSZ _).out.mono ?_); rintro e w6 ⟨rfl, rfl⟩))
              all_goals
                obtain ⟨gn, hgn⟩ : ∃ gn, gn = wr.heap.size := ⟨_, rfl⟩
                have HGN : Hid ((wr.alloc (.cells #[.int .i64 ((D : Int) + (fe.bits : Int)), .int .i64 (1 + (fe.seg : Int)), .int .i64 n, .int .i64 m] 103)).drew.heap[gn]? = some (.cells (plC (candP m k n fe)) 103 (0, 0))) := by
                  refine Lib.hid ?_
                  rw [HCC.out, hgn]
                  exact heap_alloc_new wr _
                have HX8 : Hid (Ext wr (wr.alloc (.cells #[.int .i64 ((D : Int) + (fe.bits : Int)), .int .i64 (1 + (fe.seg : Int)), .int .i64 n, .int .i64 m] 103)).drew) := (Ext.alloc _ _).trans (Ext.drew _)
                rw [← hgn]
                generalize World.drew (World.alloc wr _) = w8 at HGN HX8 ⊢
                clear hgn
                have HF8 := Lib.hid (HF.out.on HX8.out)
                have HRN8 := Lib.hid (plC_row HGN.out)
                have HRB8 := Lib.hid (plC_row HF8.out.best)
                have HB8 := Lib.hid HF8.out.best
                have zl : w8.cell? ⟨w.heap.size + 1, 2, none⟩ = some (.int .i64 b.len) := by rw [cell_of_row w8 _ _ _ _ _ HF8.out.best]; rfl
                have HRUN2 : Hid (∀ j, 1 ≤ j → j < n + 1 → Run m k p a j) := fun j h1 h2 => by
                  by_cases e : j = n
                  · subst e; exact HRN.out
                  · exact HRUN.out j h1 (by omega)
                have HCE : Hid (candP m k n fe = candP (md x) k n (planAt k p (a + n))) := by refine Lib.hid ?_; rw [HM.out, HFE.out, HQ.out]
                by_cases hb0 : b.len = 0
                · have hb0' : ((b.len : Int) == 0) = true := by simp; omega
                  have HLE := Lib.hid (tried_len HLO.out hb0)
                  clear hb0
                  go_wp2_with (first
                    | ((with_reducible show wpList _ _ _ (⟨some 84, _, _, _, _, _⟩ :: _) _ _); refine wpList_loadAgg rfl 103 _ rfl _ Try.underlying103 rfl _ rfl _ HRN8.out (by kernel_rfl) ?_)
                    | ((with_reducible show wpList _ _ _ (⟨none, .store 103 _ _, _, _, _, _⟩ :: _) _ _); refine wpList_storeM rfl 103 _ _ rfl (w.heap.size + 1) _ rfl rfl 103 _ HB8.out (by kernel_rfl) (by kernel_rfl) (plC_one _) ?_; intro w3 H3 HM3))
                  refine ⟨⟨n + 1, candP m k n fe, by omega, by omega, by rw [Int.natCast_succ], Lib.hid (HF8.out.put HM3.out H3.out), Lib.hid ?_, HRUN2⟩, by simp [intOf]; omega⟩
                  rw [HCE.out]
                  exact LeastOf.take HLO.out (C := fun d => d = candP (md x) k n (planAt k p (a + n))) (tried_more k p a x n hn1) rfl (fun d hd => by rw [hd]; simp [Pl.lt]) (Or.inr HLE.out)
                · have hb0' : ((b.len : Int) == 0) = false := by simp; omega
                  have HTS := Lib.hid (tried_some HLO.out hb0)
                  clear hb0
                  have HG9 := HGN.out
                  rw [HCC.out] at HG9
                  have n0 : w8.cell? ⟨gn, 0, none⟩ = some (.int .i64 ((D : Int) + (fe.bits : Int))) := by rw [cell_of_row w8 _ _ _ _ _ HG9]; rfl
                  have n1 : w8.cell? ⟨gn, 1, none⟩ = some (.int .i64 (1 + (fe.seg : Int))) := by rw [cell_of_row w8 _ _ _ _ _ HG9]; rfl
                  have n2 : w8.cell? ⟨gn, 2, none⟩ = some (.int .i64 n) := by rw [cell_of_row w8 _ _ _ _ _ HG9]; rfl
                  have n3 : w8.cell? ⟨gn, 3, none⟩ = some (.int .i64 m) := by rw [cell_of_row w8 _ _ _ _ _ HG9]; rfl
                  have b0 : w8.cell? ⟨w.heap.size + 1, 0, none⟩ = some (.int .i64 b.bits) := by rw [cell_of_row w8 _ _ _ _ _ HB8.out]; rfl
                  have b1 : w8.cell? ⟨w.heap.size + 1, 1, none⟩ = some (.int .i64 b.seg) := by rw [cell_of_row w8 _ _ _ _ _ HB8.out]; rfl
                  have b3 : w8.cell? ⟨w.heap.size + 1, 3, none⟩ = some (.int .i64 b.mode) := by rw [cell_of_row w8 _ _ _ _ _ HB8.out]; rfl
                  clear HG9
                  have HBT := Lib.hid (rbetter_any (candP m k n fe) b w8)
                  rw [HCC.out] at HBT
                  simp only [plC] at HBT
                  go_wp2_with fail
                  refine HBT.out.mono ?_
                  rintro e w9 ⟨rfl, hx9⟩
                  have HF9 := Lib.hid (HF8.out.on hx9)
                  have HRN9 := Lib.hid (HRN8.out.ext hx9)
                  have HB9 := Lib.hid HF9.out.best
                  clear n0 n1 n2 n3 b0 b1 b3 zl hx9
                  by_cases hlt : (candP m k n fe).lt b
                  · rw [decide_eq_true hlt]
                    have HLT := Lib.hid hlt
                    clear hlt
                    go_wp2_with (first
                      | ((with_reducible show wpList _ _ _ (⟨some 84, _, _, _, _, _⟩ :: _) _ _); refine wpList_loadAgg rfl 103 _ rfl _ Try.underlying103 rfl _ rfl _ HRN9.out (by kernel_rfl) ?_)
                      | ((with_reducible show wpList _ _ _ (⟨none, .store 103 _ _, _, _, _, _⟩ :: _) _ _); refine wpList_storeM rfl 103 _ _ rfl (w.heap.size + 1) _ rfl rfl 103 _ HB9.out (by kernel_rfl) (by kernel_rfl) (plC_one _) ?_; intro w3 H3 HM3))
                    refine ⟨⟨n + 1, candP m k n fe, by omega, by omega, by rw [Int.natCast_succ], Lib.hid (HF9.out.put HM3.out H3.out), Lib.hid ?_, HRUN2⟩, by simp [intOf]; omega⟩
                    have h1 := HLT.out
                    rw [HCE.out] at h1 ⊢
                    exact LeastOf.take HLO.out (C := fun d => d = candP (md x) k n (planAt k p (a + n))) (tried_more k p a x n hn1) rfl (fun d hd => by rw [hd]; simp [Pl.lt]) (Or.inl h1)
                  · rw [decide_eq_false hlt]
                    have HLT := Lib.hid hlt
                    clear hlt
                    go_wp2_with fail
                    refine ⟨⟨n + 1, b, by omega, by omega, by rw [Int.natCast_succ], HF9, Lib.hid ?_, HRUN2⟩, by simp [intOf]; omega⟩
                    have h1 := HLT.out
                    rw [HCE.out] at h1
                    exact LeastOf.keep HLO.out (C := fun d => d = candP (md x) k n (planAt k p (a + n))) (tried_more k p a x n hn1) (fun d hd => by rw [hd]; simp [Pl.lt]) HTS.out h1
          · have HNR : Hid (¬ Run m k p a n) := by
              intro h
              have := h.2.2.1
              have := HMOE.out
              omega
            go_wp2_with fail
            refine (HMO _).out.mono ?_
            rintro e w' ⟨rfl, rfl⟩
            go_wp2_with fail
            exact ⟨⟨x + 1, b, by omega, by rw [Int.natCast_succ], HF, Lib.hid (HLO.out.congr (tried_next k p a x n (by rw [← HM.out]; exact HRUN.out) (by rw [← HM.out]; exact HNR.out) hn1))⟩, by simp [intOf]; omega⟩
        · have HNR : Hid (¬ Run m k p a n) := by
            intro h
            have := h.2.1
            rw [HL.out] at this
            omega
          go_wp2_with fail
          exact ⟨⟨x + 1, b, by omega, by rw [Int.natCast_succ], HF, Lib.hid (HLO.out.congr (tried_next k p a x n (by rw [← HM.out]; exact HRUN.out) (by rw [← HM.out]; exact HNR.out) hn1))⟩, by simp [intOf]; omega⟩
    · obtain rfl : x = 3 := by omega
      obtain rfl : b = planAt k p a := tried_all (by rw [HL.out]; exact ha) HLO.out
      have HRB := Lib.hid (plC_row HF.out.best)
      have HRES := Lib.hid HF.out.res
      clear hx3 hx
      go_wp2_with (first
        | ((with_reducible show wpList _ _ _ (⟨some 85, _, _, _, _, _⟩ :: _) _ _); refine wpList_loadAgg rfl 103 _ rfl _ Try.underlying103 rfl _ rfl _ HRB.out (by kernel_rfl) ?_)
        | ((with_reducible show wpList _ _ _ (⟨none, .store 103 _ _, _, _, _, _⟩ :: _) _ _); refine wpList_storeM rfl 103 _ _ rfl w.heap.size _ rfl rfl 103 _ HRES.out (by kernel_rfl) (by kernel_rfl) (plC_one _) ?_; intro w3 H3 HM3))
      refine bodyPost_ret (results_cell_row rfl _ w3 w.heap.size 103 _ (0, 0) _ rfl H3.out Try.underlying103 rfl (by kernel_rfl)) rfl ?_
      have hm := HM3.out
      have he := HF.out.ext
      exact ⟨rfl, ⟨hm.os.trans he.os, hm.tape.trans he.tape, hm.output.trans he.output, Nat.le_trans he.size hm.size, fun j hj => (hm.block j (by have := he.size; omega) (by omega) (by omega)).trans (he.block j hj)⟩⟩


theorem Try.infoChoice : (Try.prog.info? 103).map (fun i => (i.zero, i.size, i.bytes)) = some (some (.agg #[.int .i64 0, .int .i64 0, .int .i64 0, .int .i64 0]), 4, 32) := by kernel_rfl

/-- The table of plans: from a place on the plans, before it zeros. -/
structure RTab (w : World) (gp n a : Nat) (F : Nat → Pl) : Prop where
  blk : ∃ cs, w.heap[gp]? = some (.cells cs 103 (0, 0))
  at_ : ∀ e, e < n + 1 → PlanAt w gp e (if a ≤ e then F e else zeroP)
theorem RTab.kept {w w2 : World} {gp n a : Nat} {F : Nat → Pl} (x : RTab w gp n a F) (h : w2.heap[gp]? = w.heap[gp]?) : RTab w2 gp n a F := by
  obtain ⟨cs, hcs⟩ := x.blk
  exact ⟨⟨cs, h.trans hcs⟩, fun e he => (x.at_ e he).kept h⟩
theorem RTab.plans {w : World} {gp n a : Nat} {F : Nat → Pl} (x : RTab w gp n a F) (hb : ∀ e, (F e).bits ≤ 1048576 ∧ (F e).seg ≤ 4096) : Plans w gp (n + 1) a F :=
  ⟨fun e h1 h2 => by have := x.at_ e h2; rwa [if_pos h1] at this, fun e => (hb e).1, fun e => (hb e).2⟩
theorem RTab.lt {w : World} {gp n a : Nat} {F : Nat → Pl} (x : RTab w gp n a F) : gp < w.heap.size := by
  obtain ⟨cs, hcs⟩ := x.blk
  exact (Array.getElem?_eq_some_iff.1 hcs).1
/-- A plan is stored. -/
theorem RTab.store {w : World} {gp n a : Nat} {F : Nat → Pl} (x : RTab w gp n (a + 1) F) (ha : a < n + 1) :
    RTab ((((w.setCell ⟨gp, a * 4, none⟩ (.int .i64 (F a).bits)).setCell ⟨gp, a * 4 + 1, none⟩ (.int .i64 (F a).seg)).setCell ⟨gp, a * 4 + 2, none⟩ (.int .i64 (F a).len)).setCell ⟨gp, a * 4 + 3, none⟩ (.int .i64 (F a).mode)) gp n a F := by
  obtain ⟨cs, hcs⟩ := x.blk
  have h4 := heap_setCell_same _ _ (a * 4 + 3) (.int .i64 (F a).mode) _ _ _ (heap_setCell_same _ _ (a * 4 + 2) (.int .i64 (F a).len) _ _ _ (heap_setCell_same _ _ (a * 4 + 1) (.int .i64 (F a).seg) _ _ _ (heap_setCell_same _ _ (a * 4) (.int .i64 (F a).bits) _ _ _ hcs)))
  have hold : ∀ e i v, w.cell? ⟨gp, e * 4 + i, none⟩ = some v → cs[e * 4 + i]? = some v := by
    intro e i v hv
    rwa [cell_of_row w gp _ _ _ _ hcs] at hv
  refine ⟨⟨_, h4⟩, fun e he => ?_⟩
  have hx := x.at_ e he
  have hx4 := hold e 3 _ hx.c3
  have hsz := (Array.getElem?_eq_some_iff.1 hx4).1
  have hxa := x.at_ a ha
  have hsa := (Array.getElem?_eq_some_iff.1 (hold a 3 _ hxa.c3)).1
  by_cases hea : e = a
  · subst hea
    rw [if_pos (Nat.le_refl _)]
    refine ⟨?_, ?_, ?_, ?_⟩ <;> (rw [cell_of_row _ gp _ _ _ _ h4]; simp [Array.getElem?_setIfInBounds]; omega)
  · have hif : (if a ≤ e then F e else zeroP) = if a + 1 ≤ e then F e else zeroP := by
      by_cases h : a ≤ e
      · rw [if_pos h, if_pos (by omega)]
      · rw [if_neg h, if_neg (by omega)]
    rw [hif]
    refine ⟨?_, ?_, ?_, ?_⟩
    · rw [cell_of_row _ gp _ _ _ _ h4, Array.getElem?_setIfInBounds_ne (by omega), Array.getElem?_setIfInBounds_ne (by omega), Array.getElem?_setIfInBounds_ne (by omega), Array.getElem?_setIfInBounds_ne (by omega)]
      exact hold e 0 _ hx.c0
    · rw [cell_of_row _ gp _ _ _ _ h4, Array.getElem?_setIfInBounds_ne (by omega), Array.getElem?_setIfInBounds_ne (by omega), Array.getElem?_setIfInBounds_ne (by omega), Array.getElem?_setIfInBounds_ne (by omega)]
      exact hold e 1 _ hx.c1
    · rw [cell_of_row _ gp _ _ _ _ h4, Array.getElem?_setIfInBounds_ne (by omega), Array.getElem?_setIfInBounds_ne (by omega), Array.getElem?_setIfInBounds_ne (by omega), Array.getElem?_setIfInBounds_ne (by omega)]
      exact hold e 2 _ hx.c2
    · rw [cell_of_row _ gp _ _ _ _ h4, Array.getElem?_setIfInBounds_ne (by omega), Array.getElem?_setIfInBounds_ne (by omega), Array.getElem?_setIfInBounds_ne (by omega), Array.getElem?_setIfInBounds_ne (by omega)]
      exact hx4

theorem RTab.there {w : World} {gp n a : Nat} {F : Nat → Pl} (x : RTab w gp n a F) (e : Nat) (he : e < n + 1) : w.there gp (e * 4) 4 := by
  obtain ⟨cs, hcs⟩ := x.blk
  have h := x.at_ e he
  intro j hj
  refine ⟨?_, by simp [World.frozen?, hcs]⟩
  match j, hj with
  | 0, _ => rw [Nat.add_zero, h.c0]; rfl
  | 1, _ => rw [h.c1]; rfl
  | 2, _ => rw [h.c2]; rfl
  | 3, _ => rw [h.c3]; rfl

/-- A plan is stored into the table. -/
theorem wpList_storeChoice {P : Program} {ops : Array Oper} {rest : List Oper} {o : Oper} {a : Act} {K : Exit → Act → World → Prop} {w : World} (hg : o.guard = none) (t : TypeId) (x y : Operand) (ho : o.op = .store t x y) (gp n at_ : Nat) (F : Nat → Pl)
    (hx : a.eval x = .pointer (some ⟨gp, at_ * 4, none⟩)) (hy : a.eval y = .agg (plC (F at_))) (hi : (P.info? t).map (·.size) = some 4) (hat : at_ < n + 1) (ht : RTab w gp n (at_ + 1) F)
    (hK : ∀ w', Hid (RTab w' gp n at_ F) → Hid (Mod gp gp w w') → wpList P ops K rest (a.put o.dst undef) w') : wpList P ops K (o :: rest) a w := by
  refine wpList_store_mid hg t x y ho gp (at_ * 4) _ hx hy (ht.there at_ hat) (by rw [hi]; rfl) (plC_one _) ?_
  exact hK _ (ht.store hat) (setCells_mod w gp _ _ _ (Mod.refl _ _ _))

theorem RTab.row {w : World} {gp n a : Nat} {F : Nat → Pl} (x : RTab w gp n a F) (e : Nat) (h1 : a ≤ e) (h2 : e < n + 1) : PlanAt w gp e (F e) := by
  have := x.at_ e h2
  rwa [if_pos h1] at this


theorem RTab.made {w : World} {B n gr cr : Nat} {F : Nat → Pl} (h : w.ownsRow B 103 4 (.slice (some ⟨gr, 0, none⟩) (n + 1) cr) (n + 1) (List.replicate ((n + 1) * 4) (.int .i64 0))) (hF : F n = zeroP) : RTab w gr n n F := by
  have hcell : ∀ j, j < (n + 1) * 4 → w.cell? ⟨gr, j, none⟩ = some (.int .i64 0) := by
    intro j hj
    rw [h.cellAt j hj]
    simp [hj]
  rcases h.2 with ⟨hv, _⟩ | ⟨g', cap', cur, hv, hb, hg, _⟩
  · cases hv
  · simp only [Value.slice.injEq, Option.some.injEq, Addr.mk.injEq, true_and, and_true] at hv
    obtain ⟨rfl, rfl⟩ := hv
    refine ⟨⟨_, hg⟩, fun e he => ?_⟩
    rw [show (if n ≤ e then F e else zeroP) = zeroP by split; (rw [show e = n by omega]; exact hF); rfl]
    exact ⟨hcell _ (by omega), hcell _ (by omega), hcell _ (by omega), hcell _ (by omega)⟩

set_option maxRecDepth 20000 in
set_option maxHeartbeats 3200000 in
theorem rbest_any (ao : Option Addr) (len cap : Nat) (p : List UInt8) (c : Int) (w : World) (hl : p.length = len) (hlc : len ≤ cap) (hb : cap ≤ 9223372036854775807) (hr : Row w ao (byts p)) :
    Calls Try.prog 27 #[.slice ao len cap, .int .i64 c] w (RetBest w (bestRes p c).1 (bestRes p c).2.1 (bestRes p c).2.2) := by
  have HL := Lib.hid hl
  rcases class_cases c with hcc | ⟨hcc, hcc'⟩ | hcc
  · rw [show bestRes p c = ([], 0, 1) from by unfold bestRes; rw [if_pos (Or.inl hcc)]]
    clear hl
    go_enter Try.func27, Try.ntmps27
    go_wp2_with fail
    go_ret3
    exact RetBest.nil _ _ _ (Ext.refl _)
  · rw [show bestRes p c = ([], 0, 1) from by unfold bestRes; rw [if_pos (Or.inr hcc')]]
    clear hl
    go_enter Try.func27, Try.ntmps27
    go_wp2_with fail
    go_ret3
    exact RetBest.nil _ _ _ (Ext.refl _)
  · obtain ⟨k, rfl, hk⟩ : ∃ k : Nat, c = k ∧ k ≤ 2 := ⟨c.toNat, by omega, by omega⟩
    clear hcc
    by_cases hbig : 4096 < len
    · rw [show bestRes p k = ([], 0, 4) from by unfold bestRes; rw [if_neg (by omega), if_pos (by omega)]]
      clear hl
      go_enter Try.func27, Try.ntmps27
      go_wp2_with fail
      go_ret3
      exact RetBest.nil _ _ _ (Ext.refl _)
    · rw [show bestRes p k = (bestL k p, ((plan k p).bits : Int), 0) from by unfold bestRes; rw [if_neg (by omega), if_neg (by omega)]; simp]
      simp only
      have hn : len ≤ 4096 := by omega
      have HR := Lib.hid hr
      clear hl hbig hr
      go_enter Try.func27, Try.ntmps27
      go_wp2_with fail
      go_loopw [7, 8] (fun v i wr => ∃ j : Nat, j ≤ len + 1 ∧ i = .int .i64 j ∧ wr.ownsRow w.heap.size 103 4 v j (List.replicate (j * 4) (.int .i64 0)) ∧ Hid (Ext w wr)) (fun _ i _ => len + 1 - (intOf i).toNat)
      case atStart => exact ⟨0, Nat.zero_le _, rfl, World.ownsRow_nil _ _ _ _, Ext.refl _⟩
      case round =>
        obtain ⟨j, hj, rfl, hown, HX⟩ := hrel
        have hB := HX.out.size
        by_cases hlt : j ≤ len
        · go_wp2_with (at_builtin; refine wpList_pushK rfl _ _ 101 rfl w.heap.size 103 (.agg #[.int .i64 0, .int .i64 0, .int .i64 0, .int .i64 0]) 4 32 Try.infoChoice rfl (by decide) Try.underlying101 _ rfl _ _ hown [.int .i64 0, .int .i64 0, .int .i64 0, .int .i64 0] rfl rfl (by simp [Value.oneCell']) (by omega) (by omega) hB ?_; intro s4 w4 hown4 hk4)
          refine ⟨⟨j + 1, by omega, by rw [Int.natCast_succ], ?_, Lib.hid (Below.trans HX.out (hk4.below hB (fun k' h' => (hown.lt k' h').1)))⟩, by simp [intOf]; omega⟩
          have he : List.replicate ((j + 1) * 4) (Value.int .i64 0) = List.replicate (j * 4) (.int .i64 0) ++ [.int .i64 0, .int .i64 0, .int .i64 0, .int .i64 0] := by
            rw [show (j + 1) * 4 = j * 4 + 4 by omega, ← List.replicate_append_replicate]
            rfl
          rw [he]
          exact hown4
        · obtain rfl : j = len + 1 := by omega
          obtain ⟨gr, cr, hv, hgr, hcr⟩ : ∃ gr cr, u7 = .slice (some ⟨gr, 0, none⟩) (len + 1) cr ∧ w.heap.size ≤ gr ∧ len + 1 ≤ cr := by
            rcases hown.2 with ⟨_, hn0⟩ | ⟨g', cap', cur, hv, hb', _, hnc, _⟩
            · omega
            · exact ⟨g', cap', hv, hb', hnc⟩
          subst hv
          have HTB0 := Lib.hid (RTab.made (F := planAt k p) hown (by unfold planAt; rw [List.drop_of_length_le (by rw [HL.out]; exact Nat.le_refl _)]; exact plan_nil k))
          clear hown hlt hj
          go_wp2_with fail
          go_loopw [9] (fun t wr => ∃ a : Nat, a ≤ len ∧ t = .int .i64 ((a : Int) - 1) ∧ Hid (RTab wr gr len a (planAt k p)) ∧ Hid (Ext w wr)) (fun t _ => ((intOf t) + 1).toNat)
          case atStart => exact ⟨len, Nat.le_refl _, rfl, HTB0, HX⟩
          case round =>
            clear HTB0 HX hB
            obtain ⟨a, ha, rfl, HTB, HXS⟩ := hrel
            rcases Nat.eq_zero_or_pos a with ha0 | ha0
            · subst ha0
              obtain ⟨gp, rfl⟩ : ∃ gp, gp = gr := ⟨_, rfl⟩
              obtain ⟨wS, rfl⟩ : ∃ wS, wS = wr := ⟨_, rfl⟩
              clear ha
              have hae : (((0 : Nat) : Int) - 1) = -1 := rfl
              rw [hae]
              go_wp2_with fail
              go_loopw [10, 11, 12] (fun v t _ wy => ∃ (a : Nat) (l : List SegD) (cells : List Value), a ≤ len ∧ t = .int .i64 a ∧ l.length ≤ a ∧ wy.ownsRow wS.heap.size 33 2 v l.length cells ∧ Hid (SegCells w.heap.size wy gp v cells l) ∧ Hid (l ++ bestL k (p.drop a) = bestL k p) ∧ Hid (Keep wS (.slice none 0 0) wy v)) (fun _ t _ _ => len - (intOf t).toNat)
              case atStart => exact ⟨0, [], [], by omega, rfl, Nat.le_refl _, World.ownsRow_nil _ _ _ _, SegCells.nil _ _ _ _, rfl, Keep.refl _ _⟩
              case round =>
                obtain ⟨a, l, cells, ha, rfl, hla, hown, HSC, HBL, HK⟩ := hrel
                have HXY := Lib.hid (HK.out.toExt rfl)
                by_cases hal : a < len
                · have hap : a < p.length := by rw [HL.out]; exact hal
                  obtain ⟨hq1, hq2⟩ := planAt_more k p a hap
                  rw [HL.out] at hq2
                  have HPA := Lib.hid ((HTB.out.row a (Nat.zero_le _) (by omega)).ext HXY.out)
                  have z2 := HPA.out.c2
                  have z3 := HPA.out.c3
                  have HST := Lib.hid (best_step k p a hap)
                  obtain ⟨M, hM⟩ : ∃ M, M = (planAt k p a).mode := ⟨_, rfl⟩
                  obtain ⟨L, hL⟩ : ∃ L, L = (planAt k p a).len := ⟨_, rfl⟩
                  have HZ2 := Lib.hid HPA.out.c2
                  rw [← hM] at z3 HST
                  rw [← hL] at z2 hq1 hq2 HST HZ2
                  clear hM hL
                  have HRY := Lib.hid (HR.out.ext (HXS.out.trans HXY.out))
                  obtain ⟨ad, rfl, _⟩ := HRY.out.at (byts_at p a hap)
                  have hdl : ((p.drop a).take L).length = L := by rw [List.length_take, List.length_drop, HL.out]; omega
                  have hcapa : a < cap := by omega
                  obtain ⟨D, hD⟩ : ∃ D, D = (p.drop a).take L := ⟨_, rfl⟩
                  have HDR : Hid (∀ ao', ao' = (some ad : Option Addr).map (·.add a) → Row wr ao' (byts D)) := by
                    intro ao' h'
                    rw [hD, byts_cut]
                    exact HRY.out.cut a L (fun _ _ => h')
                  rw [← hD] at hdl HST
                  have HDL := Lib.hid hdl
                  clear hD hdl
                  have HSZ0 : Hid (wS.heap.size ≤ wr.heap.size) := HXY.out.size
                  go_upto_region 19 with (at_builtin; refine wpList_app rfl _ _ 22 rfl wr.heap.size 5 (.int .u8 0) 1 1 Try.infoByte rfl (by decide) Try.underlying22 _ rfl 0 [] (World.ownsRow_nil _ _ _ _) _ _ _ rfl (byts D) (HDR.out _ rfl) (by rw [length_byts, HDL.out]; omega) (fun h => by cases h) (byts_oneCell _) (by omega) (by omega) (Nat.le_refl _) ?_; intro s5 w5 hown5 hk5)
                  have hx5 : Ext wr w5 := hk5.toExt rfl
                  have hown5' : w5.ownsRow wr.heap.size 5 1 s5 L (byts D) := by
                    rw [show 0 + (a + L - a) = L by omega, List.nil_append] at hown5
                    exact hown5
                  clear hown5 hk5
                  obtain ⟨so5, sc5, rfl, hso5, hsm5, _, hsr5⟩ := own_row hown5'
                  have HDA : Hid (DatA w.heap.size w5 gp u10 (.slice so5 L sc5) D) := by
                    refine ⟨so5, sc5, by rw [HDL.out], hsr5, by rw [HDL.out]; exact hso5, by unfold maxLen at hsm5; omega, own_nil' hown5', ?_⟩
                    intro b hb
                    subst hb
                    have h1 := hown5'.lt b.block rfl
                    have h2 := HTB.out.lt
                    have h3 := HXS.out.size
                    have h4 := HSZ0.out
                    refine ⟨by omega, ?_, h1.2, by omega⟩
                    intro e
                    have := (hown.lt b.block e).2
                    omega
                  have hown6 := own_extN hown hx5
                  have HSC5 := Lib.hid (HSC.out.keep (KeepG.ofExt (g := gp) hx5 u10))
                  have z3' := hx5.cell z3
                  have HK5 := Lib.hid (HK.out.ext hx5)
                  have HZ5 := Lib.hid (hx5.cell HZ2.out)
                  have HC2 : Hid (cells.length = l.length * 2) := hown.1
                  have HSZ5 : Hid (wS.heap.size ≤ w5.heap.size) := Nat.le_trans HSZ0.out hx5.size
                  have HGPL : Hid (gp < wS.heap.size) := HTB.out.lt
                  clear hown5' hsr5 z2 z3 hown HSC HK hx5
                  go_wp2_with (at_builtin; refine wpList_pushK rfl _ _ 25 rfl wS.heap.size 33 (.agg #[.int .i64 0, .slice none 0 0]) 2 32 Try.infoSeg rfl (by decide) Try.underlying25 _ rfl _ _ hown6 [.int .i64 M, .slice so5 L sc5] rfl rfl (by simp [Value.oneCell']) (by omega) (by omega) HSZ5.out ?_; intro s4 w4 hown4 hk4; have q2 := hk4.cell HZ5.out (own_below hown6 HGPL.out))
                  have HSC4 := Lib.hid ((HSC5.out.snoc (m := M) HC2.out HDA.out).keep (KeepG.ofKeep hk4))
                  have hown4' : w4.ownsRow wS.heap.size 33 2 s4 (l ++ [(M, D)]).length (cells ++ [.int .i64 M, .slice so5 L sc5]) := by
                    rw [List.length_append]; exact hown4
                  go_roundw
                  case rel =>
                    repeat apply Exists.intro
                    refine ⟨⟨a + L, l ++ [(M, D)], _, by omega, int_eq (by omega), by rw [List.length_append]; simp; omega, hown4', HSC4, Lib.hid ?_, Lib.hid (HK5.out.trans hk4)⟩, rfl⟩
                    have h1 := HBL.out
                    rw [HST.out] at h1
                    rw [List.append_assoc]
                    exact h1
                  case measure => simp [intOf]; omega
                · obtain rfl : a = len := by omega
                  have z0 : wr.cell? ⟨gp, 0, none⟩ = some (.int .i64 (planAt k p 0).bits) := by simpa using (HXY.out.cell (HTB.out.row 0 (Nat.le_refl _) (by omega)).c0)
                  go_wp2_with fail
                  go_quiet (fail)
                  go_wp2_with fail
                  go_ret3
                  have hpl : planAt k p 0 = plan k p := by unfold planAt; rw [List.drop_zero]
                  have hfin : l = bestL k p := by
                    have h1 := HBL.out
                    rw [List.drop_of_length_le (by rw [HL.out]; exact Nat.le_refl _), bestL_nil, List.append_nil] at h1
                    exact h1
                  rw [← hfin, ← hpl]
                  have hxn := (Ext.refl wr).drewN nq
                  exact RetBest.own (own_extN hown hxn) HXS.out.size (HSC.out.keep (KeepG.ofExt hxn _)) ((HXS.out.trans HXY.out).trans hxn)
            · obtain ⟨a, rfl⟩ : ∃ a', a = a' + 1 := ⟨a - 1, by omega⟩
              clear ha0
              have hae : ((a + 1 : Nat) : Int) - 1 = (a : Int) := by omega
              rw [hae]
              go_wp2_with fail
              refine (first_any ao len cap p a k gr cr wr HL.out hlc hb (HR.out.ext HXS.out) hn hk (by omega) hcr (fun e h1 h2 => HTB.out.row e h1 h2)).mono ?_
              rintro e w2 ⟨rfl, hx2⟩
              have HTB2 := Lib.hid (HTB.out.kept (hx2.block gr HTB.out.lt))
              have HX2 := Lib.hid (HXS.out.trans hx2)
              clear hx2
              go_wp2_with ((with_reducible show wpList _ _ _ (⟨none, .store 103 _ _, _, _, _, _⟩ :: _) _ _); refine wpList_storeChoice rfl 103 _ _ rfl gr len a (planAt k p) (by simp [Act.eval]) rfl (by kernel_rfl) (by omega) HTB2.out ?_; intro w9 H9 HM9)
              have hm := HM9.out
              have he := HX2.out
              go_roundw
              case rel =>
                repeat apply Exists.intro
                exact ⟨⟨a, by omega, rfl, H9, Lib.hid ⟨hm.os.trans he.os, hm.tape.trans he.tape, hm.output.trans he.output, Nat.le_trans he.size hm.size, fun j hj => (hm.block j (by have := he.size; omega) (by omega) (by omega)).trans (he.block j hj)⟩⟩, rfl⟩
              case measure => simp [intOf]

end Go.Proofs.Ythebfpolijajgaa
