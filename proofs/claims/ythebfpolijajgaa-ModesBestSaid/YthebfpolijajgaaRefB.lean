/-
  The contract of the reference's Best.
  Conditions: the slice's cells are those of the list.
-/
import Derived.Test.YthebfpolijajgaaRefA
namespace Go.Proofs.Ythebfpolijajgaa
open Go.RowKit Go.Bs Go.Mode

theorem Try.infoChoice : (Try.prog.info? 103).map (fun i => (i.zero, i.size, i.bytes)) = some (some (.agg #[.int .i64 0, .int .i64 0, .int .i64 0, .int .i64 0]), 4, 32) := by kernel_rfl

/-- The table of plans: from a place on the plans, before it zeros. -/
structure RTab (w : World) (gp n a : Nat) (F : Nat → Pl) : Prop where
  blk : ∃ cs, w.heap[gp]? = some (.cells cs 103 (0, 0))
  at_ : ∀ e, e < n + 1 → PlanAt w gp e (if a ≤ e then F e else zeroP)
theorem RTab.kept {w w2 : World} {gp n a : Nat} {F : Nat → Pl} (x : RTab w gp n a F) (h : w2.heap[gp]? = w.heap[gp]?) : RTab w2 gp n a F := by
  obtain ⟨cs, hcs⟩ := x.blk
  exact ⟨⟨cs, h.trans hcs⟩, fun e he => (x.at_ e he).kept h⟩
theorem RTab.plans {w : World} {gp n a : Nat} {F : Nat → Pl} (x : RTab w gp n a F) (hb : ∀ e, (F e).bits ≤ 1048576 ∧ (F e).seg ≤ 4096) : Plans w gp (n + 1) a F :=
  ⟨fun e h1 h2 => by have := x.at_ e h2; rwa [if_pos h1] at this, fun e => (hb e).1, fun e => (hb e).2⟩
theorem RTab.lt {w : World} {gp n a : Nat} {F : Nat → Pl} (x : RTab w gp n a F) : gp < w.heap.size := by
  obtain ⟨cs, hcs⟩ := x.blk
  exact (Array.getElem?_eq_some_iff.1 hcs).1
/-- A plan is stored. -/
theorem RTab.store {w : World} {gp n a : Nat} {F : Nat → Pl} (x : RTab w gp n (a + 1) F) (ha : a < n + 1) :
    RTab ((((w.setCell ⟨gp, a * 4, none⟩ (.int .i64 (F a).bits)).setCell ⟨gp, a * 4 + 1, none⟩ (.int .i64 (F a).seg)).setCell ⟨gp, a * 4 + 2, none⟩ (.int .i64 (F a).len)).setCell ⟨gp, a * 4 + 3, none⟩ (.int .i64 (F a).mode)) gp n a F := by
  obtain ⟨cs, hcs⟩ := x.blk
  have h4 := heap_setCell_same _ _ (a * 4 + 3) (.int .i64 (F a).mode) _ _ _ (heap_setCell_same _ _ (a * 4 + 2) (.int .i64 (F a).len) _ _ _ (heap_setCell_same _ _ (a * 4 + 1) (.int .i64 (F a).seg) _ _ _ (heap_setCell_same _ _ (a * 4) (.int .i64 (F a).bits) _ _ _ hcs)))
  have hold : ∀ e i v, w.cell? ⟨gp, e * 4 + i, none⟩ = some v → cs[e * 4 + i]? = some v := by
    intro e i v hv
    rwa [cell_of_row w gp _ _ _ _ hcs] at hv
  refine ⟨⟨_, h4⟩, fun e he => ?_⟩
  have hx := x.at_ e he
  have hx4 := hold e 3 _ hx.c3
  have hsz := (Array.getElem?_eq_some_iff.1 hx4).1
  have hxa := x.at_ a ha
  have hsa := (Array.getElem?_eq_some_iff.1 (hold a 3 _ hxa.c3)).1
  by_cases hea : e = a
  · subst hea
    rw [if_pos (Nat.le_refl _)]
    refine ⟨?_, ?_, ?_, ?_⟩ <;> (rw [cell_of_row _ gp _ _ _ _ h4]; simp [Array.getElem?_setIfInBounds]; omega)
  · have hif : (if a ≤ e then F e else zeroP) = if a + 1 ≤ e then F e else zeroP := by
      by_cases h : a ≤ e
      · rw [if_pos h, if_pos (by omega)]
      · rw [if_neg h, if_neg (by omega)]
    rw [hif]
    refine ⟨?_, ?_, ?_, ?_⟩
    · rw [cell_of_row _ gp _ _ _ _ h4, Array.getElem?_setIfInBounds_ne (by omega), Array.getElem?_setIfInBounds_ne (by omega), Array.getElem?_setIfInBounds_ne (by omega), Array.getElem?_setIfInBounds_ne (by omega)]
      exact hold e 0 _ hx.c0
    · rw [cell_of_row _ gp _ _ _ _ h4, Array.getElem?_setIfInBounds_ne (by omega), Array.getElem?_setIfInBounds_ne (by omega), Array.getElem?_setIfInBounds_ne (by omega), Array.getElem?_setIfInBounds_ne (by omega)]
      exact hold e 1 _ hx.c1
    · rw [cell_of_row _ gp _ _ _ _ h4, Array.getElem?_setIfInBounds_ne (by omega), Array.getElem?_setIfInBounds_ne (by omega), Array.getElem?_setIfInBounds_ne (by omega), Array.getElem?_setIfInBounds_ne (by omega)]
      exact hold e 2 _ hx.c2
    · rw [cell_of_row _ gp _ _ _ _ h4, Array.getElem?_setIfInBounds_ne (by omega), Array.getElem?_setIfInBounds_ne (by omega), Array.getElem?_setIfInBounds_ne (by omega), Array.getElem?_setIfInBounds_ne (by omega)]
      exact hx4

theorem RTab.there {w : World} {gp n a : Nat} {F : Nat → Pl} (x : RTab w gp n a F) (e : Nat) (he : e < n + 1) : w.there gp (e * 4) 4 := by
  obtain ⟨cs, hcs⟩ := x.blk
  have h := x.at_ e he
  intro j hj
  refine ⟨?_, by simp [World.frozen?, hcs]⟩
  match j, hj with
  | 0, _ => rw [Nat.add_zero, h.c0]; rfl
  | 1, _ => rw [h.c1]; rfl
  | 2, _ => rw [h.c2]; rfl
  | 3, _ => rw [h.c3]; rfl

/-- A plan is stored into the table. -/
theorem wpList_storeChoice {P : Program} {ops : Array Oper} {rest : List Oper} {o : Oper} {a : Act} {K : Exit → Act → World → Prop} {w : World} (hg : o.guard = none) (t : TypeId) (x y : Operand) (ho : o.op = .store t x y) (gp n at_ : Nat) (F : Nat → Pl)
    (hx : a.eval x = .pointer (some ⟨gp, at_ * 4, none⟩)) (hy : a.eval y = .agg (plC (F at_))) (hi : (P.info? t).map (·.size) = some 4) (hat : at_ < n + 1) (ht : RTab w gp n (at_ + 1) F)
    (hK : ∀ w', Hid (RTab w' gp n at_ F) → Hid (Mod gp gp w w') → wpList P ops K rest (a.put o.dst undef) w') : wpList P ops K (o :: rest) a w := by
  refine wpList_store_mid hg t x y ho gp (at_ * 4) _ hx hy (ht.there at_ hat) (by rw [hi]; rfl) (plC_one _) ?_
  exact hK _ (ht.store hat) (setCells_mod w gp _ _ _ (Mod.refl _ _ _))

theorem RTab.row {w : World} {gp n a : Nat} {F : Nat → Pl} (x : RTab w gp n a F) (e : Nat) (h1 : a ≤ e) (h2 : e < n + 1) : PlanAt w gp e (F e) := by
  have := x.at_ e h2
  rwa [if_pos h1] at this


theorem RTab.made {w : World} {B n gr cr : Nat} {F : Nat → Pl} (h : w.ownsRow B 103 4 (.slice (some ⟨gr, 0, none⟩) (n + 1) cr) (n + 1) (List.replicate ((n + 1) * 4) (.int .i64 0))) (hF : F n = zeroP) : RTab w gr n n F := by
  have hcell : ∀ j, j < (n + 1) * 4 → w.cell? ⟨gr, j, none⟩ = some (.int .i64 0) := by
    intro j hj
    rw [h.cellAt j hj]
    simp [hj]
  rcases h.2 with ⟨hv, _⟩ | ⟨g', cap', cur, hv, hb, hg, _⟩
  · cases hv
  · simp only [Value.slice.injEq, Option.some.injEq, Addr.mk.injEq, true_and, and_true] at hv
    obtain ⟨rfl, rfl⟩ := hv
    refine ⟨⟨_, hg⟩, fun e he => ?_⟩
    rw [show (if n ≤ e then F e else zeroP) = zeroP by split; (rw [show e = n by omega]; exact hF); rfl]
    exact ⟨hcell _ (by omega), hcell _ (by omega), hcell _ (by omega), hcell _ (by omega)⟩

set_option maxRecDepth 20000 in
set_option maxHeartbeats 3200000 in
theorem rbest_any (ao : Option Addr) (len cap : Nat) (p : List UInt8) (c : Int) (w : World) (hl : p.length = len) (hlc : len ≤ cap) (hb : cap ≤ 9223372036854775807) (hr : Row w ao (byts p)) :
    Calls Try.prog 27 #[.slice ao len cap, .int .i64 c] w (RetBest w (bestRes p c).1 (bestRes p c).2.1 (bestRes p c).2.2) := by
  have HL := Lib.hid hl
  rcases class_cases c with hcc | ⟨hcc, hcc'⟩ | hcc
  · rw [show bestRes p c = ([], 0, 1) from by unfold bestRes; rw [if_pos (Or.inl hcc)]]
    clear hl
    go_enter Try.func27, Try.ntmps27
    go_wp2_with fail
    go_ret3
    exact RetBest.nil _ _ _ (Ext.refl _)
  · rw [show bestRes p c = ([], 0, 1) from by unfold bestRes; rw [if_pos (Or.inr hcc')]]
    clear hl
    go_enter Try.func27, Try.ntmps27
    go_wp2_with fail
    go_ret3
    exact RetBest.nil _ _ _ (Ext.refl _)
  · obtain ⟨k, rfl, hk⟩ : ∃ k : Nat, c = k ∧ k ≤ 2 := ⟨c.toNat, by omega, by omega⟩
    clear hcc
    by_cases hbig : 4096 < len
    · rw [show bestRes p k = ([], 0, 4) from by unfold bestRes; rw [if_neg (by omega), if_pos (by omega)]]
      clear hl
      go_enter Try.func27, Try.ntmps27
      go_wp2_with fail
      go_ret3
      exact RetBest.nil _ _ _ (Ext.refl _)
    · rw [show bestRes p k = (bestL k p, ((plan k p).bits : Int), 0) from by unfold bestRes; rw [if_neg (by omega), if_neg (by omega)]; simp]
      simp only
      have hn : len ≤ 4096 := by omega
      have HR := Lib.hid hr
      clear hl hbig hr
      go_enter Try.func27, Try.ntmps27
      go_wp2_with fail
      go_loopw [7, 8] (fun v i wr => ∃ j : Nat, j ≤ len + 1 ∧ i = .int .i64 j ∧ wr.ownsRow w.heap.size 103 4 v j (List.replicate (j * 4) (.int .i64 0)) ∧ Hid (Ext w wr)) (fun _ i _ => len + 1 - (intOf i).toNat)
      case atStart => exact ⟨0, Nat.zero_le _, rfl, World.ownsRow_nil _ _ _ _, Ext.refl _⟩
      case round =>
        obtain ⟨j, hj, rfl, hown, HX⟩ := hrel
        have hB := HX.out.size
        by_cases hlt : j ≤ len
        · go_wp2_with (at_builtin; refine wpList_pushK rfl _ _ 101 rfl w.heap.size 103 (.agg #[.int .i64 0, .int .i64 0, .int .i64 0, .int .i64 0]) 4 32 Try.infoChoice rfl (by decide) Try.underlying101 _ rfl _ _ hown [.int .i64 0, .int .i64 0, .int .i64 0, .int .i64 0] rfl rfl (by simp [Value.oneCell']) (by omega) (by omega) hB ?_; intro s4 w4 hown4 hk4)
          refine ⟨⟨j + 1, by omega, by rw [Int.natCast_succ], ?_, Lib.hid (Below.trans HX.out (hk4.below hB (fun k' h' => (hown.lt k' h').1)))⟩, by simp [intOf]; omega⟩
          have he : List.replicate ((j + 1) * 4) (Value.int .i64 0) = List.replicate (j * 4) (.int .i64 0) ++ [.int .i64 0, .int .i64 0, .int .i64 0, .int .i64 0] := by
            rw [show (j + 1) * 4 = j * 4 + 4 by omega, ← List.replicate_append_replicate]
            rfl
          rw [he]
          exact hown4
        · obtain rfl : j = len + 1 := by omega
          obtain ⟨gr, cr, hv, hgr, hcr⟩ : ∃ gr cr, u7 = .slice (some ⟨gr, 0, none⟩) (len + 1) cr ∧ w.heap.size ≤ gr ∧ len + 1 ≤ cr := by
            rcases hown.2 with ⟨_, hn0⟩ | ⟨g', cap', cur, hv, hb', _, hnc, _⟩
            · omega
            · exact ⟨g', cap', hv, hb', hnc⟩
          subst hv
          have HTB0 := Lib.hid (RTab.made (F := planAt k p) hown (by unfold planAt; rw [List.drop_of_length_le (by rw [HL.out]; exact Nat.le_refl _)]; exact plan_nil k))
          clear hown hlt hj
          go_wp2_with fail
          go_loopw [9] (fun t wr => ∃ a : Nat, a ≤ len ∧ t = .int .i64 ((a : Int) - 1) ∧ Hid (RTab wr gr len a (planAt k p)) ∧ Hid (Ext w wr)) (fun t _ => ((intOf t) + 1).toNat)
          case atStart => exact ⟨len, Nat.le_refl _, rfl, HTB0, HX⟩
          case round =>
            clear HTB0 HX hB
            obtain ⟨a, ha, rfl, HTB, HXS⟩ := hrel
            rcases Nat.eq_zero_or_pos a with ha0 | ha0
            · subst ha0
              obtain ⟨gp, rfl⟩ : ∃ gp, gp = gr := ⟨_, rfl⟩
              obtain ⟨wS, rfl⟩ : ∃ wS, wS = wr := ⟨_, rfl⟩
              clear ha
              have hae : (((0 : Nat) : Int) - 1) = -1 := rfl
              rw [hae]
              go_wp2_with fail
              go_loopw [10, 11, 12] (fun v t _ wy => ∃ (a : Nat) (l : List SegD) (cells : List Value), a ≤ len ∧ t = .int .i64 a ∧ l.length ≤ a ∧ wy.ownsRow wS.heap.size 33 2 v l.length cells ∧ Hid (SegCells w.heap.size wy gp v cells l) ∧ Hid (l ++ bestL k (p.drop a) = bestL k p) ∧ Hid (Keep wS (.slice none 0 0) wy v)) (fun _ t _ _ => len - (intOf t).toNat)
              case atStart => exact ⟨0, [], [], by omega, rfl, Nat.le_refl _, World.ownsRow_nil _ _ _ _, SegCells.nil _ _ _ _, rfl, Keep.refl _ _⟩
              case round =>
                obtain ⟨a, l, cells, ha, rfl, hla, hown, HSC, HBL, HK⟩ := hrel
                have HXY := Lib.hid (HK.out.toExt rfl)
                by_cases hal : a < len
                · have hap : a < p.length := by rw [HL.out]; exact hal
                  obtain ⟨hq1, hq2⟩ := planAt_more k p a hap
                  rw [HL.out] at hq2
                  have HPA := Lib.hid ((HTB.out.row a (Nat.zero_le _) (by omega)).ext HXY.out)
                  have z2 := HPA.out.c2
                  have z3 := HPA.out.c3
                  have HST := Lib.hid (best_step k p a hap)
                  obtain ⟨M, hM⟩ : ∃ M, M = (planAt k p a).mode := ⟨_, rfl⟩
                  obtain ⟨L, hL⟩ : ∃ L, L = (planAt k p a).len := ⟨_, rfl⟩
                  have HZ2 := Lib.hid HPA.out.c2
                  rw [← hM] at z3 HST
                  rw [← hL] at z2 hq1 hq2 HST HZ2
                  clear hM hL
                  have HRY := Lib.hid (HR.out.ext (HXS.out.trans HXY.out))
                  obtain ⟨ad, rfl, _⟩ := HRY.out.at (byts_at p a hap)
                  have hdl : ((p.drop a).take L).length = L := by rw [List.length_take, List.length_drop, HL.out]; omega
                  have hcapa : a < cap := by omega
                  obtain ⟨D, hD⟩ : ∃ D, D = (p.drop a).take L := ⟨_, rfl⟩
                  have HDR : Hid (∀ ao', ao' = (some ad : Option Addr).map (·.add a) → Row wr ao' (byts D)) := by
                    intro ao' h'
                    rw [hD, byts_cut]
                    exact HRY.out.cut a L (fun _ _ => h')
                  rw [← hD] at hdl HST
                  have HDL := Lib.hid hdl
                  clear hD hdl
                  have HSZ0 : Hid (wS.heap.size ≤ wr.heap.size) := HXY.out.size
                  go_upto_region 19 with (at_builtin; refine wpList_app rfl _ _ 22 rfl wr.heap.size 5 (.int .u8 0) 1 1 Try.infoByte rfl (by decide) Try.underlying22 _ rfl 0 [] (World.ownsRow_nil _ _ _ _) _ _ _ rfl (byts D) (HDR.out _ rfl) (by rw [length_byts, HDL.out]; omega) (fun h => by cases h) (byts_oneCell _) (by omega) (by omega) (Nat.le_refl _) ?_; intro s5 w5 hown5 hk5)
                  have hx5 : Ext wr w5 := hk5.toExt rfl
                  have hown5' : w5.ownsRow wr.heap.size 5 1 s5 L (byts D) := by
                    rw [show 0 + (a + L - a) = L by omega, List.nil_append] at hown5
                    exact hown5
                  clear hown5 hk5
                  obtain ⟨so5, sc5, rfl, hso5, hsm5, _, hsr5⟩ := own_row hown5'
                  have HDA : Hid (DatA w.heap.size w5 gp u10 (.slice so5 L sc5) D) := by
                    refine ⟨so5, sc5, by rw [HDL.out], hsr5, by rw [HDL.out]; exact hso5, by unfold maxLen at hsm5; omega, own_nil' hown5', ?_⟩
                    intro b hb
                    subst hb
                    have h1 := hown5'.lt b.block rfl
                    have h2 := HTB.out.lt
                    have h3 := HXS.out.size
                    have h4 := HSZ0.out
                    refine ⟨by omega, ?_, h1.2, by omega⟩
                    intro e
                    have := (hown.lt b.block e).2
                    omega
                  have hown6 := own_extN hown hx5
                  have HSC5 := Lib.hid (HSC.out.keep (KeepG.ofExt (g := gp) hx5 u10))
                  have z3' := hx5.cell z3
                  have HK5 := Lib.hid (HK.out.ext hx5)
                  have HZ5 := Lib.hid (hx5.cell HZ2.out)
                  have HC2 : Hid (cells.length = l.length * 2) := hown.1
                  have HSZ5 : Hid (wS.heap.size ≤ w5.heap.size) := Nat.le_trans HSZ0.out hx5.size
                  have HGPL : Hid (gp < wS.heap.size) := HTB.out.lt
                  clear hown5' hsr5 z2 z3 hown HSC HK hx5
                  go_wp2_with (at_builtin; refine wpList_pushK rfl _ _ 25 rfl wS.heap.size 33 (.agg #[.int .i64 0, .slice none 0 0]) 2 32 Try.infoSeg rfl (by decide) Try.underlying25 _ rfl _ _ hown6 [.int .i64 M, .slice so5 L sc5] rfl rfl (by simp [Value.oneCell']) (by omega) (by omega) HSZ5.out ?_; intro s4 w4 hown4 hk4; have q2 := hk4.cell HZ5.out (own_below hown6 HGPL.out))
                  have HSC4 := Lib.hid ((HSC5.out.snoc (m := M) HC2.out HDA.out).keep (KeepG.ofKeep hk4))
                  have hown4' : w4.ownsRow wS.heap.size 33 2 s4 (l ++ [(M, D)]).length (cells ++ [.int .i64 M, .slice so5 L sc5]) := by
                    rw [List.length_append]; exact hown4
                  go_roundw
                  case rel =>
                    repeat apply Exists.intro
                    refine ⟨⟨a + L, l ++ [(M, D)], _, by omega, int_eq (by omega), by rw [List.length_append]; simp; omega, hown4', HSC4, Lib.hid ?_, Lib.hid (HK5.out.trans hk4)⟩, rfl⟩
                    have h1 := HBL.out
                    rw [HST.out] at h1
                    rw [List.append_assoc]
                    exact h1
                  case measure => simp [intOf]; omega
                · obtain rfl : a = len := by omega
                  have z0 : wr.cell? ⟨gp, 0, none⟩ = some (.int .i64 (planAt k p 0).bits) := by simpa using (HXY.out.cell (HTB.out.row 0 (Nat.le_refl _) (by omega)).c0)
                  go_wp2_with fail
                  go_quiet (fail)
                  go_wp2_with fail
                  go_ret3
                  have hpl : planAt k p 0 = plan k p := by unfold planAt; rw [List.drop_zero]
                  have hfin : l = bestL k p := by
                    have h1 := HBL.out
                    rw [List.drop_of_length_le (by rw [HL.out]; exact Nat.le_refl _), bestL_nil, List.append_nil] at h1
                    exact h1
                  rw [← hfin, ← hpl]
                  have hxn := (Ext.refl wr).drewN nq
                  exact RetBest.own (own_extN hown hxn) HXS.out.size (HSC.out.keep (KeepG.ofExt hxn _)) ((HXS.out.trans HXY.out).trans hxn)
            · obtain ⟨a, rfl⟩ : ∃ a', a = a' + 1 := ⟨a - 1, by omega⟩
              clear ha0
              have hae : ((a + 1 : Nat) : Int) - 1 = (a : Int) := by omega
              rw [hae]
              go_wp2_with fail
              refine (first_any ao len cap p a k gr cr wr HL.out hlc hb (HR.out.ext HXS.out) hn hk (by omega) hcr (fun e h1 h2 => HTB.out.row e h1 h2)).mono ?_
              rintro e w2 ⟨rfl, hx2⟩
              have HTB2 := Lib.hid (HTB.out.kept (hx2.block gr HTB.out.lt))
              have HX2 := Lib.hid (HXS.out.trans hx2)
              clear hx2
              go_wp2_with ((with_reducible show wpList _ _ _ (⟨none, .store 103 _ _, _, _, _, _⟩ :: _) _ _); refine wpList_storeChoice rfl 103 _ _ rfl gr len a (planAt k p) (by simp [Act.eval]) rfl (by kernel_rfl) (by omega) HTB2.out ?_; intro w9 H9 HM9)
              have hm := HM9.out
              have he := HX2.out
              go_roundw
              case rel =>
                repeat apply Exists.intro
                exact ⟨⟨a, by omega, rfl, H9, Lib.hid ⟨hm.os.trans he.os, hm.tape.trans he.tape, hm.output.trans he.output, Nat.le_trans he.size hm.size, fun j hj => (hm.block j (by have := he.size; omega) (by omega) (by omega)).trans (he.block j hj)⟩⟩, rfl⟩
              case measure => simp [intOf]

end Go.Proofs.Ythebfpolijajgaa
