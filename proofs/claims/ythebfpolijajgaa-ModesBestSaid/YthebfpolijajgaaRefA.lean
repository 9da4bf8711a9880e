/-
  The contracts of the reference's better, first and Best.
  Conditions: the slices' cells are those of the lists.
-/
import Derived.Test.YthebfpolijajgaaBestH
import Derived.Test.YthebfpolijajgaaModeH
import Derived.Deep.RegionHeld3
namespace Go.Proofs.Ythebfpolijajgaa
open Go.RowKit Go.Bs Go.Mode

set_option maxRecDepth 20000 in
set_option maxHeartbeats 1600000 in
theorem rbetter_any (a b : Pl) (w : World) : Calls Try.prog 83 #[.agg (plC a), .agg (plC b)] w fun e w' => e = .returned (.bool (decide (a.lt b))) ∧ Ext w w' := by
  have HL : Hid (a.lt b ↔ (a.bits < b.bits ∨ (a.bits = b.bits ∧ (a.seg < b.seg ∨ (a.seg = b.seg ∧ (b.len < a.len ∨ (a.len = b.len ∧ a.mode < b.mode))))))) := Iff.rfl
  obtain ⟨a1, a2, a3, a4⟩ := a
  obtain ⟨b1, b2, b3, b4⟩ := b
  simp only at HL
  obtain ⟨L, hL⟩ : ∃ L, L = decide (Pl.lt ⟨a1, a2, a3, a4⟩ ⟨b1, b2, b3, b4⟩) := ⟨_, rfl⟩
  rw [← hL]
  have HLL : Hid (L = decide (a1 < b1 ∨ (a1 = b1 ∧ (a2 < b2 ∨ (a2 = b2 ∧ (b3 < a3 ∨ (a3 = b3 ∧ a4 < b4))))))) := by
    show _ = _
    rw [hL, decide_eq_decide]
    exact HL.out
  clear hL HL
  simp only [plC]
  by_cases h1 : a1 = b1
  · subst h1
    by_cases h2 : a2 = b2
    · subst h2
      by_cases h3 : a3 = b3
      · subst h3
        have HR : Hid (L = decide (a4 < b4)) := by show _ = _; rw [HLL.out, decide_eq_decide]; omega
        go_enter Try.func83, Try.ntmps83
        go_wp2_with fail
        go_ret
        exact ⟨by rw [HR.out]; rfl, (Ext.alloc _ _).trans (Ext.alloc _ _)⟩
      · have h3' : ((a3 : Int) != (b3 : Int)) = true := by simp; omega
        have HR : Hid (L = decide (b3 < a3)) := by show _ = _; rw [HLL.out, decide_eq_decide]; omega
        clear h3
        go_enter Try.func83, Try.ntmps83
        go_wp2_with fail
        go_ret
        exact ⟨by rw [HR.out]; rfl, (Ext.alloc _ _).trans (Ext.alloc _ _)⟩
    · have h3' : ((a2 : Int) != (b2 : Int)) = true := by simp; omega
      have HR : Hid (L = decide (a2 < b2)) := by show _ = _; rw [HLL.out, decide_eq_decide]; omega
      clear h2
      go_enter Try.func83, Try.ntmps83
      go_wp2_with fail
      go_ret
      exact ⟨by rw [HR.out]; rfl, (Ext.alloc _ _).trans (Ext.alloc _ _)⟩
  · have h3' : ((a1 : Int) != (b1 : Int)) = true := by simp; omega
    have HR : Hid (L = decide (a1 < b1)) := by show _ = _; rw [HLL.out, decide_eq_decide]; omega
    clear h1
    go_enter Try.func83, Try.ntmps83
    go_wp2_with fail
    go_ret
    exact ⟨by rw [HR.out]; rfl, (Ext.alloc _ _).trans (Ext.alloc _ _)⟩


/-- A run of j bytes from a place on that may be a segment of a mode. -/
def Run (m : Int) (k : Nat) (p : List UInt8) (a j : Nat) : Prop := 1 ≤ j ∧ a + j ≤ p.length ∧ j < 2 ^ cntB m k ∧ ∀ i c, a ≤ i → i < a + j → p[i]? = some c → fitsB m c = true
theorem Run.less {m : Int} {k : Nat} {p : List UInt8} {a j i : Nat} (h : Run m k p a j) (h1 : 1 ≤ i) (h2 : i ≤ j) : Run m k p a i :=
  ⟨h1, by have := h.2.1; omega, by have := h.2.2.1; omega, fun x c e1 e2 e3 => h.2.2.2 x c e1 (by omega) e3⟩
theorem isCand_run (k : Nat) (p : List UInt8) (a : Nat) (d : Pl) : IsCand k (p.drop a) d ↔ ∃ x, x < 3 ∧ ∃ j, Run (md x) k p a j ∧ d = candP (md x) k j (planAt k p (a + j)) := by
  rw [isCand_iff]
  constructor
  · rintro ⟨x, hx, r, _, e, ⟨h1, h2, h3⟩, _, h5, rfl⟩
    exact ⟨x, hx, e - a, ⟨by omega, by omega, h5, fun i c e1 e2 e3 => h3 i c e1 (by omega) e3⟩, by rw [Nat.add_sub_cancel' (by omega)]⟩
  · rintro ⟨x, hx, j, ⟨h1, h2, h3, h4⟩, rfl⟩
    refine ⟨x, hx, (a + j) % unitN (md x), by have := Nat.mod_lt (a + j) (unit_pos (md x)); have := unit_le (md x); omega, a + j, ⟨by omega, h2, h4⟩, rfl, by rw [Nat.add_sub_cancel_left]; exact h3, by rw [Nat.add_sub_cancel_left]⟩

/-- What has been tried: all of the modes before x, and of mode x the runs shorter than n. -/
def Tried (k : Nat) (p : List UInt8) (a x n : Nat) (d : Pl) : Prop := (∃ y, y < x ∧ ∃ j, Run (md y) k p a j ∧ d = candP (md y) k j (planAt k p (a + j))) ∨ ∃ j, 1 ≤ j ∧ j < n ∧ d = candP (md x) k j (planAt k p (a + j))
theorem tried_more (k : Nat) (p : List UInt8) (a x n : Nat) (hn : 1 ≤ n) (d : Pl) : Tried k p a x (n + 1) d ↔ Tried k p a x n d ∨ d = candP (md x) k n (planAt k p (a + n)) := by
  constructor
  · rintro (h | ⟨j, h1, h2, h3⟩)
    · exact Or.inl (Or.inl h)
    · by_cases e : j = n
      · subst e; exact Or.inr h3
      · exact Or.inl (Or.inr ⟨j, h1, by omega, h3⟩)
  · rintro ((h | ⟨j, h1, h2, h3⟩) | h)
    · exact Or.inl h
    · exact Or.inr ⟨j, h1, by omega, h3⟩
    · exact Or.inr ⟨n, hn, by omega, h⟩
theorem tried_next (k : Nat) (p : List UInt8) (a x n : Nat) (hr : ∀ j, 1 ≤ j → j < n → Run (md x) k p a j) (hs : ¬ Run (md x) k p a n) (hn : 1 ≤ n) (d : Pl) : Tried k p a (x + 1) 1 d ↔ Tried k p a x n d := by
  constructor
  · rintro (⟨y, hy, j, h1, h2⟩ | ⟨j, h1, h2, _⟩)
    · by_cases e : y = x
      · subst e
        by_cases hj : j < n
        · exact Or.inr ⟨j, h1.1, hj, h2⟩
        · exact absurd (h1.less hn (by omega)) hs
      · exact Or.inl ⟨y, by omega, j, h1, h2⟩
    · omega
  · rintro (⟨y, hy, h⟩ | ⟨j, h1, h2, h3⟩)
    · exact Or.inl ⟨y, by omega, h⟩
    · exact Or.inl ⟨x, by omega, j, hr j h1 h2, h3⟩
theorem tried_none (k : Nat) (p : List UInt8) (a : Nat) (d : Pl) : ¬ Tried k p a 0 1 d := by
  rintro (⟨y, hy, _⟩ | ⟨j, h1, h2, _⟩) <;> omega
theorem tried_all {k : Nat} {p : List UInt8} {a : Nat} {b : Pl} (ha : a < p.length) (h : LeastOf (Tried k p a 3 1) zeroP b) : b = planAt k p a := by
  refine plan_unique k (p.drop a) b zeroP (by intro e; have := congrArg List.length e; simp at this; omega) (h.congr fun d => ?_)
  rw [isCand_run]
  constructor
  · rintro ⟨x, hx, j, h1, h2⟩
    exact Or.inl ⟨x, hx, j, h1, h2⟩
  · rintro (h | ⟨j, h1, h2, _⟩)
    · exact h
    · omega
/-- A least one that has no length is none. -/
theorem tried_len {k : Nat} {p : List UInt8} {a x n : Nat} {b : Pl} (h : LeastOf (Tried k p a x n) zeroP b) (hb : b.len = 0) : ∀ d, ¬ Tried k p a x n d := by
  rcases h with ⟨_, h2⟩ | ⟨h1, _⟩
  · exact h2
  · exfalso
    rcases h1 with ⟨y, _, j, hj, rfl⟩ | ⟨j, hj, _, rfl⟩
    · have := hj.1; simp only [candP] at hb; omega
    · simp only [candP] at hb; omega
theorem tried_some {k : Nat} {p : List UInt8} {a x n : Nat} {b : Pl} (h : LeastOf (Tried k p a x n) zeroP b) (hb : b.len ≠ 0) : Tried k p a x n b := by
  rcases h with ⟨rfl, _⟩ | ⟨h1, _⟩
  · exact absurd rfl hb
  · exact h1

/-- The blocks of first's own. -/
structure FInv (w wr : World) (b : Pl) : Prop where
  ext : Ext w wr
  res : wr.heap[w.heap.size]? = some (.cells (plC zeroP) 103 (0, 0))
  best : wr.heap[w.heap.size + 1]? = some (.cells (plC b) 103 (0, 0))
  lit : wr.heap[w.heap.size + 2]? = some (.cells #[.int .i64 1, .int .i64 2, .int .i64 4] 31 (0, 0))
theorem FInv.on {w wr w2 : World} {b : Pl} (h : FInv w wr b) (hx : Ext wr w2) : FInv w w2 b :=
  ⟨h.ext.trans hx, (hx.block _ (lt_of_some h.res)).trans h.res, (hx.block _ (lt_of_some h.best)).trans h.best, (hx.block _ (lt_of_some h.lit)).trans h.lit⟩
theorem FInv.put {w wr w2 : World} {b b' : Pl} (h : FInv w wr b) (hm : Mod (w.heap.size + 1) (w.heap.size + 1) wr w2) (hb : w2.heap[w.heap.size + 1]? = some (.cells (plC b') 103 (0, 0))) : FInv w w2 b' := by
  have hs := h.ext.size
  exact ⟨⟨hm.os.trans h.ext.os, hm.tape.trans h.ext.tape, hm.output.trans h.ext.output, Nat.le_trans hs hm.size, fun j hj => (hm.block j (by omega) (by omega) (by omega)).trans (h.ext.block j hj)⟩,
    (hm.block _ (lt_of_some h.res) (by omega) (by omega)).trans h.res, hb, (hm.block _ (lt_of_some h.lit) (by omega) (by omega)).trans h.lit⟩
theorem md_lit (x : Nat) (hx : x < 3) : (#[Value.int .i64 1, .int .i64 2, .int .i64 4] : Array Value)[x]? = some (.int .i64 (md x)) := by
  have : x = 0 ∨ x = 1 ∨ x = 2 := by omega
  rcases this with rfl | rfl | rfl <;> rfl

set_option maxRecDepth 20000 in
set_option maxHeartbeats 3200000 in
theorem first_any (ao : Option Addr) (len cap : Nat) (p : List UInt8) (a k gr cr : Nat) (w : World) (hl : p.length = len) (_ : len ≤ cap) (_ : cap ≤ 9223372036854775807) (hr : Row w ao (byts p)) (hn : len ≤ 4096) (hk : k ≤ 2) (ha : a < len) (_ : len + 1 ≤ cr)
    (hT : ∀ e, a + 1 ≤ e → e < len + 1 → PlanAt w gr e (planAt k p e)) :
    Calls Try.prog 64 #[.slice ao len cap, .int .i64 a, .int .i64 k, .slice (some ⟨gr, 0, none⟩) (len + 1) cr] w fun e w' => e = .returned (.agg (plC (planAt k p a))) ∧ Ext w w' := by
  have HL := Lib.hid hl
  have HR := Lib.hid hr
  have HT := Lib.hid hT
  clear hl hr hT
  go_enter Try.func64, Try.ntmps64
  go_wp2_with fail
  have HF : Hid (FInv w (((w.alloc (.cells #[.int .i64 0, .int .i64 0, .int .i64 0, .int .i64 0] 103)).alloc (.cells #[.int .i64 0, .int .i64 0, .int .i64 0, .int .i64 0] 103)).alloc (.cells #[.int .i64 1, .int .i64 2, .int .i64 4] 31)) zeroP) := by
    refine Lib.hid ⟨((Ext.alloc _ _).trans (Ext.alloc _ _)).trans (Ext.alloc _ _), ?_, ?_, ?_⟩
    · exact Ext.new ((Ext.alloc _ _).trans (Ext.alloc _ _))
    · have h := heap_alloc_new (w.alloc (.cells #[.int .i64 0, .int .i64 0, .int .i64 0, .int .i64 0] 103)) (.cells #[.int .i64 0, .int .i64 0, .int .i64 0, .int .i64 0] 103)
      have h2 := (Ext.alloc _ (.cells #[.int .i64 1, .int .i64 2, .int .i64 4] 31)).old h
      simpa [plC, zeroP] using h2
    · have h := heap_alloc_new ((w.alloc (.cells #[.int .i64 0, .int .i64 0, .int .i64 0, .int .i64 0] 103)).alloc (.cells #[.int .i64 0, .int .i64 0, .int .i64 0, .int .i64 0] 103)) (.cells #[.int .i64 1, .int .i64 2, .int .i64 4] 31)
      simpa using h
  go_loopw [11, 12, 13, 14] (fun i _ _ _ wr => ∃ (x : Nat) (b : Pl), x ≤ 3 ∧ i = .int .i64 x ∧ Hid (FInv w wr b) ∧ Hid (LeastOf (Tried k p a x 1) zeroP b)) (fun i _ _ _ _ => 3 - (intOf i).toNat)
  case atStart => exact ⟨0, zeroP, by omega, rfl, HF, LeastOf.empty (tried_none k p a)⟩
  case round =>
    clear HF
    obtain ⟨x, b, hx, rfl, HF, HLO⟩ := hrel
    by_cases hx3 : x < 3
    · have z : wr.cell? ⟨w.heap.size + 2, x, none⟩ = some (.int .i64 (md x)) := by
        rw [cell_of_row wr _ _ _ _ _ HF.out.lit]
        exact md_lit x hx3
      have hxi : (x : Int) < 3 := by omega
      obtain ⟨m, hm⟩ : ∃ m, m = md x := ⟨_, rfl⟩
      rw [← hm] at z
      have HM := Lib.hid hm
      have HOK : Hid (okMode m = true) := by refine Lib.hid ?_; rw [hm]; exact md_ok x
      clear hm
      go_wp2_with fail
      go_loopw [13, 14] (fun i _ wr => ∃ (n : Nat) (b : Pl), 1 ≤ n ∧ a + n ≤ len + 1 ∧ i = .int .i64 n ∧ Hid (FInv w wr b) ∧ Hid (LeastOf (Tried k p a x n) zeroP b) ∧ Hid (∀ j, 1 ≤ j → j < n → Run m k p a j)) (fun i _ _ => len + 1 - (intOf i).toNat)
      case atStart => exact ⟨1, b, by omega, by omega, rfl, HF, HLO, fun j h1 h2 => absurd h2 (by omega)⟩
      case round =>
        clear HF HLO z
        obtain ⟨n, b, hn1, hn2, rfl, HF, HLO, HRUN⟩ := hrel
        by_cases hin : a + n ≤ len
        · have HMO := fun W => Lib.hid (most_any m k W HOK.out hk)
          obtain ⟨q, hq⟩ : ∃ q, q = a + n := ⟨_, rfl⟩
          obtain ⟨mo, hmo⟩ : ∃ mo, mo = 2 ^ cntB m k - 1 := ⟨_, rfl⟩
          rw [← hmo] at HMO
          have HMOE := Lib.hid hmo
          clear hmo
          have hqi : (a : Int) + (n : Int) = (q : Int) := by omega
          obtain ⟨r, hr⟩ : ∃ r, r = a + n - 1 := ⟨_, rfl⟩
          have hri : (q : Int) - 1 = (r : Int) := by omega
          have hrl : r < len := by omega
          have hql : q ≤ len := by omega
          have HQ := Lib.hid hq
          have HRR := Lib.hid hr
          clear hq hr
          by_cases hmx : n ≤ mo
          · have hrp : r < p.length := by rw [HL.out]; exact hrl
            obtain ⟨ad, rfl, hcb⟩ := (HR.out.ext HF.out.ext).at (byts_at p r hrp)
            have HFA := fun W => Lib.hid (rfits_any m p[r] W)
            cases hfi : fitsB m p[r]
            · have HNR : Hid (¬ Run m k p a n) := by
                intro h
                have := h.2.2.2 r p[r] (by have := HRR.out; omega) (by have := HRR.out; omega) (List.getElem?_eq_getElem hrp)
                rw [hfi] at this
                cases this
              simp only [hfi] at HFA
              clear hfi
              go_wp2_with fail
              refine (HMO _).out.mono ?_
              rintro e w' ⟨rfl, rfl⟩
              go_wp2_with fail
              refine (HFA _).out.mono ?_
              rintro e w' ⟨rfl, rfl⟩
              go_wp2_with fail
              exact ⟨⟨x + 1, b, by omega, by rw [Int.natCast_succ], HF, Lib.hid (HLO.out.congr (tried_next k p a x n (by rw [← HM.out]; exact HRUN.out) (by rw [← HM.out]; exact HNR.out) hn1))⟩, by simp [intOf]; omega⟩
            · have HRN : Hid (Run m k p a n) := by
                refine Lib.hid ⟨hn1, by rw [HL.out]; exact hin, by have := HMOE.out; have := Go.Mode.pow_cnt m k; omega, fun i c e1 e2 e3 => ?_⟩
                by_cases e : i = r
                · subst e
                  rw [List.getElem?_eq_getElem hrp] at e3
                  cases e3
                  exact hfi
                · have := HRR.out
                  exact (HRUN.out (n - 1) (by omega) (by omega)).2.2.2 i c e1 (by omega) e3
              simp only [hfi] at HFA
              clear hfi
              have HPA := (HT.out q (by have := HQ.out; omega) (by omega)).ext HF.out.ext
              have y0 := HPA.c0
              have y1 := HPA.c1
              have hbd := planAt_bd k p (by rw [HL.out]; exact hn) q
              obtain ⟨fe, hfe⟩ : ∃ fe, fe = planAt k p q := ⟨_, rfl⟩
              rw [← hfe] at y0 y1 hbd
              have HFE := Lib.hid hfe
              clear hfe HPA
              have HSZ := fun W => Lib.hid (rsegsize_any m k n W HOK.out hk (by omega))
              have hsb : segB m k n ≤ 100000 := by
                have h1 := cnt_le m k hk
                have h2 : dsize m n ≤ 8 * 4096 + 8 * 4096 := by
                  unfold dsize
                  split
                  · split <;> (try split) <;> omega
                  · split <;> omega
                unfold segB
                omega
              obtain ⟨D, hD⟩ : ∃ D, D = segB m k n := ⟨_, rfl⟩
              simp only [← hD] at HSZ
              rw [← hD] at hsb
              have HD := Lib.hid hD
              clear hD
              have s1 : IntKind.i64.wrap ((D : Int) + (fe.bits : Int)) = (D : Int) + (fe.bits : Int) := IntWalk.i64_in _ (by omega)
              have s2 : IntKind.i64.wrap (1 + (fe.seg : Int)) = 1 + (fe.seg : Int) := IntWalk.i64_in _ (by omega)
              have HCC : Hid (plC (candP m k n fe) = #[.int .i64 ((D : Int) + (fe.bits : Int)), .int .i64 (1 + (fe.seg : Int)), .int .i64 n, .int .i64 m]) := by
                refine Lib.hid ?_
                have e1 : ((segB m k n + fe.bits : Nat) : Int) = (D : Int) + (fe.bits : Int) := by rw [HD.out]; omega
                have e2 : ((fe.seg + 1 : Nat) : Int) = 1 + (fe.seg : Int) := by omega
                simp only [plC, candP, e1, e2]
              go_wp2_with fail
              refine (HMO _).out.mono ?_
              rintro e w' ⟨rfl, rfl⟩
              go_wp2_with fail
              refine (HFA _).out.mono ?_
              rintro e w' ⟨rfl, rfl⟩
              have hq0 : (0 : Int) ≤ (q : Int) := by omega
              have s0 : IntKind.i64.wrap ((a : Int) + (n : Int)) = (q : Int) := by rw [IntWalk.i64_in _ (by omega)]; exact hqi
              have s0' : IntKind.i64.wrap (q : Int) = (q : Int) := IntWalk.i64_in _ (by omega)
              have hq1 : (q : Int) < (len : Int) + 1 := by omega
              have hq2 : (q : Int) < ((len + 1 : Nat) : Int) := by omega
              go_upto_region 10 with fail
              go_region_held3 (fun W => Ext wr W ∧ W.cell? ⟨gr, q * 4, none⟩ = some (.int .i64 fe.bits) ∧ W.cell? ⟨gr, q * 4 + 1, none⟩ = some (.int .i64 fe.seg))
                (first
                | exact ⟨Ext.drew _, (Ext.drew _).cell y0, (Ext.drew _).cell y1⟩
                | exact ⟨(Ext.drew _).trans (Ext.alloc _ _), ((Ext.drew _).trans (Ext.alloc _ _)).cell y0, ((Ext.drew _).trans (Ext.alloc _ _)).cell y1⟩)
                (first
                | (go_at_call 52; (with_reducible refine (HSZ _).out.mono ?_); rintro e w6 ⟨rfl, rfl⟩))
              all_goals
                obtain ⟨gn, hgn⟩ : ∃ gn, gn = wr.heap.size := ⟨_, rfl⟩
                have HGN : Hid ((wr.alloc (.cells #[.int .i64 ((D : Int) + (fe.bits : Int)), .int .i64 (1 + (fe.seg : Int)), .int .i64 n, .int .i64 m] 103)).drew.heap[gn]? = some (.cells (plC (candP m k n fe)) 103 (0, 0))) := by
                  refine Lib.hid ?_
                  rw [HCC.out, hgn]
                  exact heap_alloc_new wr _
                have HX8 : Hid (Ext wr (wr.alloc (.cells #[.int .i64 ((D : Int) + (fe.bits : Int)), .int .i64 (1 + (fe.seg : Int)), .int .i64 n, .int .i64 m] 103)).drew) := (Ext.alloc _ _).trans (Ext.drew _)
                rw [← hgn]
                generalize World.drew (World.alloc wr _) = w8 at HGN HX8 ⊢
                clear hgn
                have HF8 := Lib.hid (HF.out.on HX8.out)
                have HRN8 := Lib.hid (plC_row HGN.out)
                have HRB8 := Lib.hid (plC_row HF8.out.best)
                have HB8 := Lib.hid HF8.out.best
                have zl : w8.cell? ⟨w.heap.size + 1, 2, none⟩ = some (.int .i64 b.len) := by rw [cell_of_row w8 _ _ _ _ _ HF8.out.best]; rfl
                have HRUN2 : Hid (∀ j, 1 ≤ j → j < n + 1 → Run m k p a j) := fun j h1 h2 => by
                  by_cases e : j = n
                  · subst e; exact HRN.out
                  · exact HRUN.out j h1 (by omega)
                have HCE : Hid (candP m k n fe = candP (md x) k n (planAt k p (a + n))) := by refine Lib.hid ?_; rw [HM.out, HFE.out, HQ.out]
                by_cases hb0 : b.len = 0
                · have hb0' : ((b.len : Int) == 0) = true := by simp; omega
                  have HLE := Lib.hid (tried_len HLO.out hb0)
                  clear hb0
                  go_wp2_with (first
                    | ((with_reducible show wpList _ _ _ (⟨some 84, _, _, _, _, _⟩ :: _) _ _); refine wpList_loadAgg rfl 103 _ rfl _ Try.underlying103 rfl _ rfl _ HRN8.out (by kernel_rfl) ?_)
                    | ((with_reducible show wpList _ _ _ (⟨none, .store 103 _ _, _, _, _, _⟩ :: _) _ _); refine wpList_storeM rfl 103 _ _ rfl (w.heap.size + 1) _ rfl rfl 103 _ HB8.out (by kernel_rfl) (by kernel_rfl) (plC_one _) ?_; intro w3 H3 HM3))
                  refine ⟨⟨n + 1, candP m k n fe, by omega, by omega, by rw [Int.natCast_succ], Lib.hid (HF8.out.put HM3.out H3.out), Lib.hid ?_, HRUN2⟩, by simp [intOf]; omega⟩
                  rw [HCE.out]
                  exact LeastOf.take HLO.out (C := fun d => d = candP (md x) k n (planAt k p (a + n))) (tried_more k p a x n hn1) rfl (fun d hd => by rw [hd]; simp [Pl.lt]) (Or.inr HLE.out)
                · have hb0' : ((b.len : Int) == 0) = false := by simp; omega
                  have HTS := Lib.hid (tried_some HLO.out hb0)
                  clear hb0
                  have HG9 := HGN.out
                  rw [HCC.out] at HG9
                  have n0 : w8.cell? ⟨gn, 0, none⟩ = some (.int .i64 ((D : Int) + (fe.bits : Int))) := by rw [cell_of_row w8 _ _ _ _ _ HG9]; rfl
                  have n1 : w8.cell? ⟨gn, 1, none⟩ = some (.int .i64 (1 + (fe.seg : Int))) := by rw [cell_of_row w8 _ _ _ _ _ HG9]; rfl
                  have n2 : w8.cell? ⟨gn, 2, none⟩ = some (.int .i64 n) := by rw [cell_of_row w8 _ _ _ _ _ HG9]; rfl
                  have n3 : w8.cell? ⟨gn, 3, none⟩ = some (.int .i64 m) := by rw [cell_of_row w8 _ _ _ _ _ HG9]; rfl
                  have b0 : w8.cell? ⟨w.heap.size + 1, 0, none⟩ = some (.int .i64 b.bits) := by rw [cell_of_row w8 _ _ _ _ _ HB8.out]; rfl
                  have b1 : w8.cell? ⟨w.heap.size + 1, 1, none⟩ = some (.int .i64 b.seg) := by rw [cell_of_row w8 _ _ _ _ _ HB8.out]; rfl
                  have b3 : w8.cell? ⟨w.heap.size + 1, 3, none⟩ = some (.int .i64 b.mode) := by rw [cell_of_row w8 _ _ _ _ _ HB8.out]; rfl
                  clear HG9
                  have HBT := Lib.hid (rbetter_any (candP m k n fe) b w8)
                  rw [HCC.out] at HBT
                  simp only [plC] at HBT
                  go_wp2_with fail
                  refine HBT.out.mono ?_
                  rintro e w9 ⟨rfl, hx9⟩
                  have HF9 := Lib.hid (HF8.out.on hx9)
                  have HRN9 := Lib.hid (HRN8.out.ext hx9)
                  have HB9 := Lib.hid HF9.out.best
                  clear n0 n1 n2 n3 b0 b1 b3 zl hx9
                  by_cases hlt : (candP m k n fe).lt b
                  · rw [decide_eq_true hlt]
                    have HLT := Lib.hid hlt
                    clear hlt
                    go_wp2_with (first
                      | ((with_reducible show wpList _ _ _ (⟨some 84, _, _, _, _, _⟩ :: _) _ _); refine wpList_loadAgg rfl 103 _ rfl _ Try.underlying103 rfl _ rfl _ HRN9.out (by kernel_rfl) ?_)
                      | ((with_reducible show wpList _ _ _ (⟨none, .store 103 _ _, _, _, _, _⟩ :: _) _ _); refine wpList_storeM rfl 103 _ _ rfl (w.heap.size + 1) _ rfl rfl 103 _ HB9.out (by kernel_rfl) (by kernel_rfl) (plC_one _) ?_; intro w3 H3 HM3))
                    refine ⟨⟨n + 1, candP m k n fe, by omega, by omega, by rw [Int.natCast_succ], Lib.hid (HF9.out.put HM3.out H3.out), Lib.hid ?_, HRUN2⟩, by simp [intOf]; omega⟩
                    have h1 := HLT.out
                    rw [HCE.out] at h1 ⊢
                    exact LeastOf.take HLO.out (C := fun d => d = candP (md x) k n (planAt k p (a + n))) (tried_more k p a x n hn1) rfl (fun d hd => by rw [hd]; simp [Pl.lt]) (Or.inl h1)
                  · rw [decide_eq_false hlt]
                    have HLT := Lib.hid hlt
                    clear hlt
                    go_wp2_with fail
                    refine ⟨⟨n + 1, b, by omega, by omega, by rw [Int.natCast_succ], HF9, Lib.hid ?_, HRUN2⟩, by simp [intOf]; omega⟩
                    have h1 := HLT.out
                    rw [HCE.out] at h1
                    exact LeastOf.keep HLO.out (C := fun d => d = candP (md x) k n (planAt k p (a + n))) (tried_more k p a x n hn1) (fun d hd => by rw [hd]; simp [Pl.lt]) HTS.out h1
          · have HNR : Hid (¬ Run m k p a n) := by
              intro h
              have := h.2.2.1
              have := HMOE.out
              omega
            go_wp2_with fail
            refine (HMO _).out.mono ?_
            rintro e w' ⟨rfl, rfl⟩
            go_wp2_with fail
            exact ⟨⟨x + 1, b, by omega, by rw [Int.natCast_succ], HF, Lib.hid (HLO.out.congr (tried_next k p a x n (by rw [← HM.out]; exact HRUN.out) (by rw [← HM.out]; exact HNR.out) hn1))⟩, by simp [intOf]; omega⟩
        · have HNR : Hid (¬ Run m k p a n) := by
            intro h
            have := h.2.1
            rw [HL.out] at this
            omega
          go_wp2_with fail
          exact ⟨⟨x + 1, b, by omega, by rw [Int.natCast_succ], HF, Lib.hid (HLO.out.congr (tried_next k p a x n (by rw [← HM.out]; exact HRUN.out) (by rw [← HM.out]; exact HNR.out) hn1))⟩, by simp [intOf]; omega⟩
    · obtain rfl : x = 3 := by omega
      obtain rfl : b = planAt k p a := tried_all (by rw [HL.out]; exact ha) HLO.out
      have HRB := Lib.hid (plC_row HF.out.best)
      have HRES := Lib.hid HF.out.res
      clear hx3 hx
      go_wp2_with (first
        | ((with_reducible show wpList _ _ _ (⟨some 85, _, _, _, _, _⟩ :: _) _ _); refine wpList_loadAgg rfl 103 _ rfl _ Try.underlying103 rfl _ rfl _ HRB.out (by kernel_rfl) ?_)
        | ((with_reducible show wpList _ _ _ (⟨none, .store 103 _ _, _, _, _, _⟩ :: _) _ _); refine wpList_storeM rfl 103 _ _ rfl w.heap.size _ rfl rfl 103 _ HRES.out (by kernel_rfl) (by kernel_rfl) (plC_one _) ?_; intro w3 H3 HM3))
      refine bodyPost_ret (results_cell_row rfl _ w3 w.heap.size 103 _ (0, 0) _ rfl H3.out Try.underlying103 rfl (by kernel_rfl)) rfl ?_
      have hm := HM3.out
      have he := HF.out.ext
      exact ⟨rfl, ⟨hm.os.trans he.os, hm.tape.trans he.tape, hm.output.trans he.output, Nat.le_trans he.size hm.size, fun j hj => (hm.block j (by have := he.size; omega) (by omega) (by omega)).trans (he.block j hj)⟩⟩

end Go.Proofs.Ythebfpolijajgaa
