/-
  For every input QrlayoutCovers returns true, and each argument reads afterwards as it read before (Rows.QrlayoutCoversSaid).
  No condition.
-/
import Derived.Test.YtjkpdhcnklgfbaaLive
import Derived.Test.YtjkpdhcnklgfbaaCount
import Derived.Lib.BufferMore
namespace Go.Proofs.Ytjkpdhcnklgfbaa
open Go.RowKit Go.Bs Go.ChangeShapes Go.WideShapes Go.ChangeAt Go.Joins Go.Qrv Go.Lay

/-- The modules that the first j steps of the path visit. -/
def seenN (n j : Nat) : List Bool := (List.range (sd n * sd n)).map fun i => (((pathN n).take j).map (Go.Cnt.idx n)).contains i
theorem seenN_len (n j : Nat) : (seenN n j).length = sd n * sd n := by simp [seenN]
theorem seenN_at (n j i : Nat) (h : i < sd n * sd n) : (bools (seenN n j))[i]? = some (.bool ((((pathN n).take j).map (Go.Cnt.idx n)).contains i)) := by
  unfold bools seenN
  rw [List.getElem?_map, List.getElem?_map, List.getElem?_range h]
  rfl
theorem seenN_zero (n : Nat) : seenN n 0 = List.replicate (sd n * sd n) false := by
  unfold seenN
  rw [List.take_zero]
  apply List.ext_getElem
  · simp
  · intro i h1 h2
    simp
theorem take_snoc {α : Type} {l : List α} {j : Nat} {p : α} (h : l[j]? = some p) : l.take (j + 1) = l.take j ++ [p] := by
  have hj := (List.getElem?_eq_some_iff.1 h).1
  rw [List.take_succ_eq_append_getElem hj, (List.getElem?_eq_some_iff.1 h).2]
theorem seenN_succ (n j : Nat) (p : Nat × Nat) (hp : (pathN n)[j]? = some p) : seenN n (j + 1) = (seenN n j).set (Go.Cnt.idx n p) true := by
  apply List.ext_getElem
  · simp [seenN]
  · intro i h1 h2
    rw [List.getElem_set]
    unfold seenN at *
    simp only [List.length_map, List.length_range] at h1
    rw [List.getElem_map, List.getElem_map, List.getElem_range, take_snoc hp, List.map_append, List.contains_append]
    by_cases e : Go.Cnt.idx n p = i
    · rw [if_pos e]; subst e; simp
    · rw [if_neg e]
      have : ([p].map (Go.Cnt.idx n)).contains i = false := by simp; exact fun h => e h.symm
      rw [this, Bool.or_false]
/-- A step of the path: within the matrix, not seen before, a data module. -/
theorem path_step (n j : Nat) (hn : 1 ≤ n) (p : Nat × Nat) (hp : (pathN n)[j]? = some p) :
    p.1 < sd n ∧ p.2 < sd n ∧ p.2 * sd n + p.1 < sd n * sd n ∧ (ints (cellsN n))[p.2 * sd n + p.1]? = some (.int .i64 1) ∧ (bools (seenN n j))[p.2 * sd n + p.1]? = some (.bool false) := by
  obtain ⟨x, y⟩ := p
  obtain ⟨h1, h2, h3⟩ := (Go.Cnt.mem_data n x y hn).1 (List.mem_of_getElem? hp)
  have hz : y * sd n + x < sd n * sd n := by
    have : (y + 1) * sd n ≤ sd n * sd n := Nat.mul_le_mul_right _ h2
    rw [Nat.add_mul] at this
    omega
  refine ⟨h1, h2, hz, ?_, ?_⟩
  · show (ints (cellsN n))[y * sd n + x]? = _
    rw [cellsN_D n x y h1 h2]
    unfold isD at h3
    rw [beq_iff_eq.1 h3]
  · show (bools (seenN n j))[y * sd n + x]? = _
    rw [seenN_at n j _ hz]
    congr 2
    rw [Bool.eq_false_iff]
    intro hc
    have hm := List.contains_iff_mem.1 hc
    obtain ⟨q, hq, e⟩ := List.mem_map.1 hm
    obtain ⟨i, hi, rfl⟩ := List.mem_iff_getElem.1 hq
    rw [List.length_take] at hi
    rw [List.getElem_take] at e
    have hj := (List.getElem?_eq_some_iff.1 hp).1
    have hnd := List.pairwise_iff_getElem.1 (Go.Cnt.idx_nodup n hn) i j (by simp; omega) (by simpa using hj) (by omega)
    rw [List.getElem_map, List.getElem_map, (List.getElem?_eq_some_iff.1 hp).2] at hnd
    exact hnd e
/-- A module: its purpose, and whether the path visits it. -/
theorem cell_step (n i : Nat) (hn : 1 ≤ n) (hi : i < sd n * sd n) : ∃ q : Nat, 1 ≤ q ∧ q ≤ 7 ∧ (cellsN n)[i]? = some (q : Int) ∧ (ints (cellsN n))[i]? = some (.int .i64 q) ∧
    ((q = 1 ∧ (bools (seenN n (pathN n).length))[i]? = some (.bool true)) ∨ (q ≠ 1 ∧ (bools (seenN n (pathN n).length))[i]? = some (.bool false))) := by
  have hl : i < (cellsN n).length := by rw [Go.Cnt.cells_len]; exact hi
  have hm : ∀ q ∈ cellsN n, 1 ≤ q ∧ q ≤ 7 := by
    intro q hq
    unfold cellsN cellsL at hq
    obtain ⟨k, _, rfl⟩ := List.mem_map.1 hq
    exact Go.Cnt.pur_range _ _ _ _ _
  have hr := hm _ (List.getElem_mem hl)
  obtain ⟨q, hq⟩ := Int.eq_ofNat_of_zero_le (show 0 ≤ (cellsN n)[i] by omega)
  have hg : (cellsN n)[i]? = some (q : Int) := by rw [List.getElem?_eq_getElem hl, hq]
  refine ⟨q, by omega, by omega, hg, by unfold ints; rw [List.getElem?_map, hg]; rfl, ?_⟩
  have hm := Go.Cnt.idx_mem n i hn hi
  rw [hg] at hm
  rw [seenN_at n _ i hi, List.take_length]
  by_cases h1 : q = 1
  · exact .inl ⟨h1, by rw [List.contains_iff_mem.2 (hm.2 (by rw [h1]; rfl))]⟩
  · refine .inr ⟨h1, ?_⟩
    congr 2
    rw [Bool.eq_false_iff]
    intro hc
    have := hm.1 (List.contains_iff_mem.1 hc)
    simp only [Option.some.injEq] at this
    omega

theorem frozen_row {w : World} {g : Nat} {cs : Array Value} {t : TypeId} (h : w.heap[g]? = some (.cells cs t (0, 0))) (k : Nat) : w.frozen? ⟨g, k, none⟩ = false := by simp [World.frozen?, h]
theorem block_lt {w : World} {g : Nat} {o : Obj} (h : w.heap[g]? = some o) : g < w.heap.size := (Array.getElem?_eq_some_iff.1 h).1
/-- The counters of the purposes. -/
def cntA (l : List Int) : Array Value := ((List.range 8).map fun q : Nat => Value.int .i64 ((l.count (q : Int) : Nat) : Int)).toArray
theorem cntA_at (l : List Int) (q : Nat) (h : q < 8) : (cntA l)[q]? = some (.int .i64 ((l.count (q : Int) : Nat) : Int)) := by
  unfold cntA
  rw [List.getElem?_toArray, List.getElem?_map, List.getElem?_range h]
  rfl
theorem cntA_snoc (l : List Int) (q : Nat) : (cntA l).setIfInBounds q (.int .i64 ((l.count (q : Int) : Nat) + 1 : Int)) = cntA (l ++ [(q : Int)]) := by
  apply Array.ext_getElem?
  intro i
  by_cases hi : i < 8
  · rw [cntA_at _ _ hi, Array.getElem?_setIfInBounds]
    by_cases e : q = i
    · subst e
      rw [if_pos rfl, if_pos (by simp [cntA]; exact hi), List.count_append, List.count_singleton]
      simp
    · rw [if_neg e, cntA_at _ _ hi, List.count_append, List.count_singleton]
      have : ((q : Int) == (i : Int)) = false := by simp; omega
      rw [this]
      simp
  · have h1 : (cntA (l ++ [(q : Int)]))[i]? = none := by rw [Array.getElem?_eq_none_iff]; simp [cntA]; omega
    rw [h1, Array.getElem?_eq_none_iff]
    simp [cntA]
    omega

theorem words_bd (n : Nat) (h1 : 1 ≤ n) (h2 : n ≤ 40) : wordsN n < 0x10000 ∧ remN n < 0x10000 := by
  have h := Go.Cnt.sizes_all ⟨n - 1, by omega⟩
  simp only [show n - 1 + 1 = n by omega] at h
  have h' : remN n < 8 := Nat.mod_lt _ (by decide)
  omega



set_option maxRecDepth 20000 in
set_option maxHeartbeats 4000000 in
theorem qrlayoutCovers_walk (v : Int) (w : World) (_ : -9223372036854775808 ≤ v ∧ v ≤ 9223372036854775807) :
    Calls Try.prog 7 #[.int .i64 v] w fun e w' => e = .returned (.bool true) ∧ Ext w w' := by
  have HC := fun (V : World) => Lib.hid (cells_res v V)
  have HP := fun (V : World) => Lib.hid (path_res v V)
  have HW := fun (V : World) => Lib.hid (rcodewords_any v V)
  have HA := fun (V : World) => Lib.hid (raligns_any v V)
  unfold RetPts at HP
  unfold RetSl at HC HA
  rw [length_ints] at HC HA
  by_cases hv : inV v
  · obtain ⟨n, rfl, h1, h2⟩ := inV_nat hv
    simp only [cellsRes_1 hv, pathRes_1 hv, cwRes_1 hv, alRes_1 hv, three] at HC HP HW HA
    have hsb : 21 ≤ sd n ∧ sd n ≤ 177 := by unfold sd; omega
    have hQb : 441 ≤ sd n * sd n ∧ sd n * sd n ≤ 31329 := ⟨Nat.mul_le_mul hsb.1 hsb.1, Nat.mul_le_mul hsb.2 hsb.2⟩
    have hcl : (cellsN n).length = sd n * sd n := Go.Cnt.cells_len n
    have hpl := Go.Cnt.path_full n h1 h2
    have hS : 17 + 4 * (n : Int) = ((sd n : Nat) : Int) := by unfold sd; omega
    have hcn := Go.Cnt.counts n h1 h2
    have hPS : Hid (∀ j p, (pathN n)[j]? = some p → p.1 < sd n ∧ p.2 < sd n ∧ p.2 * sd n + p.1 < sd n * sd n ∧ (ints (cellsN n))[p.2 * sd n + p.1]? = some (.int .i64 1) ∧ (bools (seenN n j))[p.2 * sd n + p.1]? = some (.bool false)) := fun j p hp => path_step n j h1 p hp
    have hSS : Hid (∀ j p, (pathN n)[j]? = some p → bools (seenN n (j + 1)) = (bools (seenN n j)).set (p.2 * sd n + p.1) (.bool true)) := fun j p hp => by rw [seenN_succ n j p hp, bools_set]; rfl
    have hS0 : Hid (bools (seenN n 0) = List.replicate (sd n * sd n) (.bool false)) := by show _ = _; rw [seenN_zero]; unfold bools; rw [List.map_replicate]
    have hCS := fun (i : Nat) (hi : i < sd n * sd n) => Lib.hid (cell_step n i h1 hi)
    have hPE : Hid (∀ j, j < (pathN n).length → ∃ p, (pathN n)[j]? = some p) := fun j hj => ⟨_, List.getElem?_eq_getElem hj⟩
    have hal := (Go.Cnt.sizes_all ⟨n - 1, by omega⟩).2.2
    simp only [show n - 1 + 1 = n by omega] at hal
    have hna := Go.Cnt.sizes_all ⟨n - 1, by omega⟩
    simp only [show n - 1 + 1 = n by omega] at hna
    have hbb := words_bd n h1 h2
    rw [hcl] at HC
    rw [hpl] at HP
    have hPL8 : 8 * (wordsN n : Int) + (remN n : Int) = ((8 * wordsN n + remN n : Nat) : Int) := by omega
    rw [hpl] at hPE
    have hSF : Hid (∀ i, i < sd n * sd n → ∃ q : Nat, 1 ≤ q ∧ q ≤ 7 ∧ (cellsN n)[i]? = some (q : Int) ∧ (ints (cellsN n))[i]? = some (.int .i64 q) ∧
      ((q = 1 ∧ (bools (seenN n (8 * wordsN n + remN n)))[i]? = some (.bool true)) ∨ (q ≠ 1 ∧ (bools (seenN n (8 * wordsN n + remN n)))[i]? = some (.bool false)))) := fun i hi => by rw [← hpl]; exact cell_step n i h1 hi
    clear hpl hCS hv
    have hpw : wrap64 ((sd n : Int) * (sd n : Int)) = ((sd n * sd n : Nat) : Int) := by rw [← Int.natCast_mul]; exact IntWalk.wrap64_in _ ⟨by omega, by omega⟩
    have HNA : Hid (25 * (na n * na n - 3) < 65536 ∧ (al n).length = na n) := ⟨hna.2.1, hal⟩
    clear hna hal
    have HQ2 := Lib.hid hcn.finder
    have HQ4 := Lib.hid hcn.align
    have HQ5 := Lib.hid hcn.format
    have HQ6 := Lib.hid hcn.version
    have HQ7 := Lib.hid hcn.dark
    clear hcn
    have HPW := Lib.hid hpw
    clear hpw
    have HP8 := Lib.hid hPL8
    clear hPL8
    have HPB : Hid (8 * wordsN n + remN n ≤ 1000000) := by show _ ≤ _; omega
    generalize 8 * wordsN n + remN n = PL at *
    generalize wordsN n = X at *
    generalize remN n = R at *
    generalize cellsN n = CL at *
    generalize pathN n = ps at *
    generalize sd n * sd n = Q at *
    generalize sd n = k at *
    go_enter Try.func7, Try.ntmps7
    go_wp2_with fail
    refine (HC _).out.mono ?_
    rintro e w1 ⟨a1, c1, rfl, r1, l1, m1, -, hx1⟩
    have HX1 := Lib.hid hx1
    have HR1 := Lib.hid r1
    clear hx1 r1
    go_wp2_with fail
    refine (HP _).out.mono ?_
    rintro e w2 ⟨a2, c2, rfl, r2, l2, m2, hx2⟩
    have HX2 := Lib.hid (HX1.out.trans hx2)
    have HR2 := Lib.hid r2
    have HR12 := Lib.hid (HR1.out.ext hx2)
    clear hx2 r2
    go_wp2_with fail
    refine (HW _).out.mono ?_
    rintro e w3 ⟨rfl, hx3⟩
    have HX3 := Lib.hid (HX2.out.trans hx3)
    have HRC := Lib.hid (HR12.out.ext hx3)
    have HRP := Lib.hid (HR2.out.ext hx3)
    clear hx3
    have hpw := HPW.out
    have hp8 := HP8.out
    go_wp2_with (at_make; clear hpw hp8; (refine wpList_make (ws := w3) rfl _ _ 22 rfl w3.heap.size 4 (.bool false) 1 Try.infoBool' rfl Try.underlying22 _ _ _ _ rfl rfl Q Q (by first | rfl | exact HPW.out) (by first | rfl | exact HPW.out) (Nat.le_refl _) (by omega) (by omega) (Below.refl _ _) (Nat.le_refl _) ?_; intro w4 hown4 hbel4 _; have HOWN4 := Lib.hid hown4; have HX4 : Hid (Ext w3 w4) := hbel4; clear hown4 hbel4))
    go_loopw [12, 13, 14, 82] (fun _ _ _ ii wr => ∃ j : Nat, j ≤ PL ∧ ii = .int .i64 j ∧ Hid (wr.ownsRow w3.heap.size 4 1 (.slice (some ⟨w3.heap.size, 0, none⟩) Q Q) Q (bools (seenN n j))) ∧ Hid (Ext w3 wr)) (fun _ _ _ ii _ => PL - (intOf ii).toNat)
    case atStart => exact ⟨0, Nat.zero_le _, rfl, by rw [hS0.out]; exact HOWN4, HX4⟩
    case round =>
      clear HOWN4 HX4
      obtain ⟨j, hj, rfl, HOWN, HX⟩ := hrel
      by_cases hlt : j < PL
      · obtain ⟨⟨px, py⟩, hp⟩ := hPE.out j hlt
        obtain ⟨hx, hy, hz, hcz, hsz⟩ := hPS.out j _ hp
        have HSS := Lib.hid (hSS.out j _ hp)
        obtain ⟨b, off, rfl, p0, p1⟩ := (HRP.out.ext HX.out) j _ hp
        simp only at hx hy hz hcz hsz p0 p1 HSS
        obtain ⟨zi, hzi⟩ : ∃ zi, zi = py * k + px := ⟨_, rfl⟩
        rw [← hzi] at hz hcz hsz HSS
        obtain ⟨P, hP⟩ : ∃ P, P = py * k := ⟨_, rfl⟩
        have hmul : (py : Int) * (k : Int) = (P : Int) := by rw [hP, Int.natCast_mul]
        have hzI : (P : Int) + (px : Int) = (zi : Int) := by omega
        have hw1 : IntKind.i64.wrap ((P : Nat) : Int) = (P : Int) := IntWalk.i64_in _ ⟨by omega, by omega⟩
        have hw2 : IntKind.i64.wrap ((zi : Nat) : Int) = (zi : Int) := IntWalk.i64_in _ ⟨by omega, by omega⟩
        obtain ⟨q1, rfl, y1⟩ := (HRC.out.ext HX.out).at hcz
        obtain ⟨y2, hf2⟩ := own_cell HOWN.out zi _ hsz
        have hjp : (j : Int) < (PL : Int) := by omega
        have hzq : (zi : Int) < (Q : Int) := by omega
        clear hP hzi hp hcz hsz
        go_wp2_with fail
        go_quiet (fail)
        go_wp2_with fail
        refine ⟨⟨j + 1, by omega, by rw [Int.natCast_succ], Lib.hid ?_, Lib.hid ((HX.out.drewN _).set (Nat.le_refl _) _ _)⟩, by simp [intOf]; omega⟩
        have := fun q => ((own_extN HOWN.out ((Ext.refl wr).drewN q)).stored zi (.bool true)).1
        simp only [← HSS.out] at this
        exact this _
      · obtain rfl : j = PL := by omega
        go_wp2_with fail
        rename World => wS
        obtain ⟨W5, hW5⟩ : ∃ W5, W5 = wS.alloc (.cells (cntA []) 59) := ⟨_, rfl⟩
        have HG0 : Hid (W5.heap[wS.heap.size]? = some (.cells (cntA (CL.take 0)) 59 (0, 0))) := by rw [hW5, List.take_zero]; exact heap_alloc_new wS _
        have HX5 : Hid (Ext wS W5) := by rw [hW5]; exact Ext.alloc _ _
        have hcn : (#[.int .i64 0, .int .i64 0, .int .i64 0, .int .i64 0, .int .i64 0, .int .i64 0, .int .i64 0, .int .i64 0] : Array Value) = cntA [] := rfl
        rw [hcn, ← hW5]
        have HW3 : Hid (w3.heap.size ≤ wS.heap.size) := HX.out.size
        obtain ⟨g, hg⟩ : ∃ g, g = wS.heap.size := ⟨_, rfl⟩
        rw [← hg] at HG0 ⊢
        have hgs : wS.heap.size ≤ g := by omega
        clear hW5 hcn hg
        go_loopw [16, 143] (fun _ ii wr => ∃ i : Nat, i ≤ Q ∧ ii = .int .i64 i ∧ Hid (wr.heap[g]? = some (.cells (cntA (CL.take i)) 59 (0, 0))) ∧ Hid (Ext wS wr)) (fun _ ii _ => Q - (intOf ii).toNat)
        case atStart => exact ⟨0, Nat.zero_le _, rfl, HG0, HX5⟩
        case round =>
          clear HG0 HX5
          obtain ⟨i, hi, rfl, HG, HXQ⟩ := hrel
          by_cases hlt : i < Q
          · obtain ⟨q, hq1, hq7, hcq, hiq, hsq⟩ := hSF.out i hlt
            obtain ⟨q1, rfl, y1⟩ := (HRC.out.ext (HX.out.trans HXQ.out)).at hiq
            have hcl : (CL.take i).count (q : Int) ≤ Q := by
              have h1 := List.count_le_length (a := (q : Int)) (l := CL.take i)
              rw [List.length_take] at h1
              omega
            have y3 : wr.cell? ⟨g, q, none⟩ = some (.int .i64 (((CL.take i).count (q : Int) : Nat) : Int)) := by
              rw [cell_of_row _ _ _ _ _ _ HG.out]
              exact cntA_at _ _ (by omega)
            have HCQ : Hid ((cntA (CL.take i)).setIfInBounds q (.int .i64 (((CL.take i).count (q : Int) : Nat) + 1 : Int)) = cntA (CL.take (i + 1))) := by rw [take_snoc hcq]; exact cntA_snoc _ _
            have hf3 : wr.frozen? ⟨g, q, none⟩ = false := frozen_row HG.out q
            generalize (CL.take i).count (q : Int) = cq at hcl y3 HCQ
            have hi1 : (i : Int) < (Q : Int) := by omega
            have hqa : (1 : Int) ≤ (q : Int) := by omega
            have hqb : (q : Int) ≤ 7 := by omega
            have hqc : decide ((q : Int) < 1) = false := decide_eq_false (by omega)
            have hqd : decide ((7 : Int) < (q : Int)) = false := decide_eq_false (by omega)
            clear hcq hiq
            rcases hsq with ⟨hq, hs⟩ | ⟨hq, hs⟩
            · have y2 := (own_cell (own_extN HOWN.out HXQ.out) i _ hs).1
              have hqe : ((q : Int) == 1) = true := by simp [hq]
              clear hq
              clear hs
              go_wp2_with fail
              go_quiet (fail)
              go_wp2_with fail
              refine ⟨⟨i + 1, by omega, by rw [Int.natCast_succ], Lib.hid ?_, Lib.hid ((HXQ.out.drewN _).set (by omega) _ _)⟩, by simp [intOf]; omega⟩
              rw [← HCQ.out]
              exact Go.Lib.heap_setCell_same HG.out _
            · have y2 := (own_cell (own_extN HOWN.out HXQ.out) i _ hs).1
              have hqe : ((q : Int) == 1) = false := by simp; omega
              clear hs
              go_wp2_with fail
              go_quiet (fail)
              go_wp2_with fail
              refine ⟨⟨i + 1, by omega, by rw [Int.natCast_succ], Lib.hid ?_, Lib.hid ((HXQ.out.drewN _).set (by omega) _ _)⟩, by simp [intOf]; omega⟩
              rw [← HCQ.out]
              exact Go.Lib.heap_setCell_same HG.out _
          · obtain rfl : i = Q := by omega
            go_wp2_with fail
            rename World => wT
            refine (HA _).out.mono ?_
            rintro e w6 ⟨a6, c6, rfl, r6, l6, m6, -, hx6⟩
            have HGT := Lib.hid ((Below.block hx6 g (block_lt HG.out)).trans HG.out)
            have hct : ∀ q : Nat, q < 8 → w6.cell? ⟨g, q, none⟩ = some (.int .i64 ((CL.count (q : Int) : Nat) : Int)) := by
              intro q hq
              rw [cell_of_row _ _ _ _ _ _ HGT.out, List.take_of_length_le (by omega)]
              exact cntA_at _ _ hq
            have x2 := hct 2 (by decide)
            have x4 := hct 4 (by decide)
            have x5 := hct 5 (by decide)
            have x6 := hct 6 (by decide)
            have x7 := hct 7 (by decide)
            have e2 : CL.count (((2 : Nat) : Int)) = 192 := HQ2.out
            have e4 : CL.count (((4 : Nat) : Int)) = _ := HQ4.out
            have e5 : CL.count (((5 : Nat) : Int)) = 30 := HQ5.out
            have e6 : CL.count (((6 : Nat) : Int)) = _ := HQ6.out
            have e7 : CL.count (((7 : Nat) : Int)) = 1 := HQ7.out
            rw [e2] at x2
            rw [e4] at x4
            rw [e5] at x5
            rw [e6] at x6
            rw [e7] at x7
            have HL := Lib.hid HNA.out.2
            have HX6 := Lib.hid (HX3.out.trans (HX.out.trans (HXQ.out.trans hx6)))
            clear e2 e4 e5 e6 e7 hct r6 hx6
            by_cases hn1 : n = 1
            · subst hn1
              have hl0 : (al 1).length = 0 := rfl
              rw [if_pos rfl] at x4
              rw [if_neg (by decide)] at x6
              go_wp2_with fail
              refine (alive20_any _).mono ?_
              rintro e w7 ⟨rfl, hx7⟩
              go_wp2_with fail
              go_ret
              exact ⟨rfl, HX6.out.trans hx7⟩
            · have hL2 : 2 ≤ (al n).length ∧ (al n).length ≤ 7 := by rw [HL.out]; unfold na; rw [if_neg hn1]; omega
              rw [if_neg hn1, ← HL.out] at x4
              generalize (al n).length = L at *
              obtain ⟨LL, hLL⟩ : ∃ LL, LL = L * L := ⟨_, rfl⟩
              have hLb : 4 ≤ LL ∧ LL ≤ 49 := by rw [hLL]; exact ⟨Nat.mul_le_mul hL2.1 hL2.1, Nat.mul_le_mul hL2.2 hL2.2⟩
              obtain ⟨D, hD⟩ : ∃ D, D = LL - 3 := ⟨_, rfl⟩
              obtain ⟨E, hE⟩ : ∃ E, E = 25 * D := ⟨_, rfl⟩
              rw [← hLL, ← hD, ← hE] at x4
              have hDb : D ≤ 46 := by omega
              have hEb : E ≤ 1150 := by omega
              have h5 : (LL : Int) - 3 = (D : Int) := by omega
              have h6 : 25 * (D : Int) = (E : Int) := by omega
              have hL0 : 0 < L := by omega
              have hw1 : Hid (wrap64 ((L : Int) * (L : Int)) = (LL : Int)) := by show _ = _; rw [← Int.natCast_mul, ← hLL]; exact IntWalk.wrap64_in _ ⟨by omega, by omega⟩
              have hw2 : Hid (wrap64 ((LL : Int) - 3) = (D : Int)) := by show _ = _; rw [h5]; exact IntWalk.wrap64_in _ ⟨by omega, by omega⟩
              have hw3 : Hid (wrap64 (25 * (D : Int)) = (E : Int)) := by show _ = _; rw [h6]; exact IntWalk.wrap64_in _ ⟨by omega, by omega⟩
              by_cases h7 : 7 ≤ n
              · rw [if_pos h7] at x6
                have h7' : (7 : Int) ≤ (n : Int) := by omega
                clear h5 hD hE hLL HL hLb hL2
                have k1 := hw1.out
                have k2 := hw2.out
                have k3 := hw3.out
                go_wp2_with fail
                refine (alive20_any _).mono ?_
                rintro e w7 ⟨rfl, hx7⟩
                go_wp2_with fail
                go_ret
                exact ⟨rfl, HX6.out.trans hx7⟩
              · rw [if_neg h7] at x6
                have h7' : (n : Int) < 7 := by omega
                clear h5 hD hE hLL HL hLb hL2
                have k1 := hw1.out
                have k2 := hw2.out
                have k3 := hw3.out
                go_wp2_with fail
                refine (alive20_any _).mono ?_
                rintro e w7 ⟨rfl, hx7⟩
                go_wp2_with fail
                go_ret
                exact ⟨rfl, HX6.out.trans hx7⟩
  · simp only [cellsRes_2 hv, pathRes_2 hv, cwRes_2 hv, three, List.length_nil] at HC HP HW
    clear HA hv
    go_enter Try.func7, Try.ntmps7
    go_wp2_with fail
    refine (HC _).out.mono ?_
    rintro e w1 ⟨a1, c1, rfl, r1, l1, m1, -, hx1⟩
    have HX1 := Lib.hid hx1
    clear hx1 r1
    go_wp2_with fail
    refine (HP _).out.mono ?_
    rintro e w2 ⟨a2, c2, rfl, r2, l2, m2, hx2⟩
    have HX2 := Lib.hid (HX1.out.trans hx2)
    clear hx2 r2
    go_wp2_with fail
    refine (HW _).out.mono ?_
    rintro e w3 ⟨rfl, hx3⟩
    have HX3 := Lib.hid (HX2.out.trans hx3)
    clear hx3
    go_wp2_with fail
    refine (alive20_any _).mono ?_
    rintro e w4 ⟨rfl, hx4⟩
    go_wp2_with fail
    go_ret
    exact ⟨rfl, HX3.out.trans hx4⟩

set_option maxRecDepth 100000 in
theorem qrlayoutCovers_lifted (os : Os) (started : os.Started) (H : Type) (enc : TypeId × Value → H) :
    ReturnsInHanded {} Try.checked os 7 .any (Rows.qrlayoutCoversSpec.pre6 enc Try.prog Try.f7 Rows.qrlayoutCoversRow.domain false) (Rows.qrlayoutCoversSpec.post enc Try.prog Try.f7 false true false false) := by
  refine returnsInHanded_of_change (C := Try.checked) Try.own started (by kernel_rfl) Try.func7
    (ChangeSpec.witness6 (enc := enc) (C := Try.checked) false ⟨#[], #[.int .i64 0], []⟩ 8 (by kernel_rfl) (by kernel_rfl) (by kernel_rfl) (by kernel_rfl)) ?_
  intro W base args ds gs before hval0 hW _ _
  have hval : ∀ (j : Nat) t v, Try.f7.params[j]? = some t → args[j]? = some v → Value.okWide Try.prog W .any base t v := hval0
  have hW' := hW
  obtain ⟨p, q, hA0, hV, rfl, _, _⟩ := hW
  have hA : DataW.TrodAll enc Try.prog W 0 (fun _ => true) true Try.f7.params.toList args.toList ds p := hA0
  rw [Try.params7] at hA hval
  obtain ⟨rfl, rfl⟩ := trodVars_none hV
  clear hA0 hval0
  simp only [List.append_nil] at hW'
  have hlt : ∀ x ∈ p, x.block < W.heap.size := fun x hx => by simpa using hW'.lt x hx
  have hstay : ∀ W', Below W.heap.size W W' → _ := fun W' hb => args_stay (enc := enc) Try.laidOut hb _ _ _ _ (by kernel_rfl) hA hlt
  obtain ⟨v0, d0, rfl, rfl, h0⟩ := trodAll_one hA
  obtain ⟨x0, rfl, rfl, rfl, wx0⟩ := open_int Try.underlying3 (hval 0 3 v0 rfl rfl) h0
  refine (qrlayoutCovers_walk x0 W (wf_i64_bd wx0)).mono fun e W' ⟨he, hb⟩ => ?_
  subst he
  exact ⟨_, rfl, _, _, _, [], _, [], hW', trodAll_mk1 (shut_bool Try.underlying4 _), hstay W' hb, rfl, hb.frame _, fun h => by cases h⟩

theorem qrlayoutCovers_holds : Rows.QrlayoutCoversSaid :=
  OpenClaim.holds_of_wide 7 Try.f7 rfl rfl rfl rfl rfl rfl rfl ⟨rfl, rfl, rfl, rfl, rfl⟩ rfl rfl rfl rfl rfl (by kernel_rfl) Try.func7 (by kernel_rfl)
    (of_decide_eq_true (by kernel_rfl)) (by unfold Func.isWrapper; first | (rw [if_pos (by decide +kernel)]; kernel_rfl) | (rw [if_neg (by decide +kernel)]; exact ⟨rfl, rfl⟩))
    (fun os started H enc _ => qrlayoutCovers_lifted os started H enc)


end Go.Proofs.Ytjkpdhcnklgfbaa
