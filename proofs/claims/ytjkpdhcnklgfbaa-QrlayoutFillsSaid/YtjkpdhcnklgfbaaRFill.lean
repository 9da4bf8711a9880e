/-
  The contract of the reference's Fill.
  Conditions: a matrix of a version's size; or one that is not; at most 2^20 codewords.
  The contract of the reference's Extract.
  Conditions: a matrix of a version's size whose data modules hold the codewords; or one that is not.
-/
import Derived.Test.YtjkpdhcnklgfbaaFill
import Derived.Test.YtjkpdhcnklgfbaaRPath
import Derived.Test.YtjkpdhcnklgfbaaVerD
namespace Go.Proofs.Ytjkpdhcnklgfbaa
open Go.RowKit Go.Bs Go.Qrv Go.Lay Go.Shelf

attribute [local go_sem] Oper.semAt_some



set_option maxRecDepth 100000 in
set_option maxHeartbeats 4000000 in
theorem rfill_ok (n : Nat) (h1 : 1 ≤ n) (h2 : n ≤ 40) (xs : List Bool) (ao : Option Addr) (cap : Nat) (ws : List Int) (wo : Option Addr) (wl wc : Nat) (w : World) (hl : xs.length = sd n * sd n) (hn0 : ao = none → cap = 0) (hr : Row w ao (bools xs))
    (hwl : ws.length = wl) (hwb : wl ≤ 1048576) (hwr : Row w wo (ints ws)) :
    Calls Try.prog 31 #[.agg (matV (sd n) (sd n) ao (sd n * sd n) cap), .slice wo wl wc] w (RetMat 4 w (fillRes n xs ws)) := by
  have hsb : 21 ≤ sd n ∧ sd n ≤ 177 := by unfold sd; omega
  have hin : inV n := ⟨by omega, by omega⟩
  have hQb : 441 ≤ sd n * sd n ∧ sd n * sd n ≤ 31329 := ⟨Nat.mul_le_mul hsb.1 hsb.1, Nat.mul_le_mul hsb.2 hsb.2⟩
  have HRV := fun (V : World) => Lib.hid (rversion20_ok n h1 h2 ao cap V)
  have HCW := fun (V : World) => Lib.hid (rcodewords_any n V)
  rw [cwRes_1 hin] at HCW
  unfold three at HCW
  unfold two at HRV
  unfold matV at *
  simp only at HCW HRV
  have HR := Lib.hid hr
  have HWR := Lib.hid hwr
  have hK := wordsN_le n h2
  by_cases hwn : (ws.length : Int) ≠ wordsN n
  · rw [show fillRes n xs ws = ((0, 0, []), 7) from by unfold fillRes; rw [if_pos hwn]]
    rw [hwl] at hwn
    have hwn' : ((wl : Int) != ((wordsN n : Nat) : Int)) = true := by simpa using hwn
    generalize wordsN n = K at HCW hwn'
    clear hwn hwl hl hr hwr hK
    generalize sd n * sd n = Q at *
    generalize sd n = k at *
    go_enter Try.func31, Try.ntmps31
    skip
    go_wp2_with fail
    refine (HRV _).out.mono ?_
    rintro e w1 ⟨rfl, hx1⟩
    have HX1 := Lib.hid (((Ext.alloc w _).trans (Ext.alloc _ _)).trans hx1)
    have HG1 := Lib.hid hx1.new
    rw [World.size_alloc] at HG1
    have HB1 := Lib.hid ((Ext.alloc _ _).trans hx1)
    have HS1 : Hid (w.heap.size + 1 < w1.heap.size) := Nat.lt_of_lt_of_le (by rw [World.size_alloc, World.size_alloc]; exact Nat.lt_succ_self _) hx1.size
    clear hx1
    go_wp2_with fail
    refine (HCW _).out.mono ?_
    rintro e w2 ⟨rfl, hx2⟩
    have HX2 := Lib.hid (HX1.out.trans hx2)
    have HX12 := Lib.hid hx2
    have HGZ := Lib.hid (hx2.old HG1.out)
    clear hx2
    skip
    go_wp2_with ((with_reducible show wpList _ _ _ (⟨none, .store 24 _ _, _, _, _, _⟩ :: _) _ _); refine wpList_storeOwnK rfl 24 _ _ rfl (w.heap.size + 1) _ rfl rfl 24 _ HGZ.out (by kernel_rfl) (by kernel_rfl) (by kernel_rfl) w HX2.out (Nat.le_succ _) ?_; intro w3 HX3 HG3 HK3)
    refine bodyPost_ret (results_cellSlot rfl _ w3 (w.heap.size + 1) 24 _ (0, 0) _ rfl HG3.out Try.underlying24 rfl (by kernel_rfl)) rfl ?_
    exact RetMat.nil _ _ _ _ HX3
  · have hwn2 : (wl : Int) = ((wordsN n : Nat) : Int) := by
      by_cases e : (wl : Int) = ((wordsN n : Nat) : Int)
      · exact e
      · rw [hwl] at hwn
        exact absurd e hwn
    have hwn' : ((wl : Int) != ((wordsN n : Nat) : Int)) = false := by simpa using hwn2
    have HFW := fun (V : World) (h : Row V wo (ints ws)) => Lib.hid (rfromWords_any wo wl wc ws 8 V hwl hwb h)
    unfold RetSl at HFW
    by_cases hall : ws.all (okw 8) = true
    · rw [show fillRes n xs ws = (((sd n : Int), (sd n : Int), flL (sd n) (pathN n) (fromTo ws 8 ws.length) xs), (0 : Int)) from by unfold fillRes; rw [if_neg hwn, if_pos hall]]
      rw [fromRes_3 (by omega) (by omega) hall] at HFW
      have HCL := fun (V : World) (h : Row V ao (bools xs)) => Lib.hid (rcopy_any (sd n) (sd n) ao (sd n * sd n) cap xs V hl h hn0 (by omega))
      have HPR := fun (V : World) => Lib.hid (rpath_own n V)
      rw [pathRes_1 hin] at HPR
      have hbl : (fromTo ws 8 ws.length).length ≤ 8388608 := by rw [length_fromTo ws 8 _ (Nat.le_refl _)]; omega
      have hpl := pathN_len n h2
      have HPI := Lib.hid (pathN_in n)
      rw [show (8 : Int).toNat = 8 from rfl] at HFW
      unfold RetMat
      simp only
      rw [flL_len, hl]
      unfold OwnMat at HCL
      rw [hl] at HCL
      unfold RetPtsB at HPR
      simp only [length_bools] at HFW
      have HXL : ∀ bs i, Hid ((bools (flT (sd n) (pathN n) bs xs i)).length = sd n * sd n) := fun bs i => by show _ = _; rw [length_bools, flT_len, hl]
      have HFS := fun (bs : List Bool) (i : Nat) (p : Nat × Nat) (h : (pathN n)[i]? = some p) => Lib.hid (flT_succ (k := sd n) (bs := bs) (xs := xs) h)
      have HF0 : ∀ bs, Hid (flT (sd n) (pathN n) bs xs 0 = xs) := fun bs => rfl
      have HFE : ∀ bs, Hid (flL (sd n) (pathN n) bs xs = flT (sd n) (pathN n) bs xs (pathN n).length) := fun bs => rfl
      have HPE : Hid (∀ i, i < (pathN n).length → ∃ p, (pathN n)[i]? = some p) := fun i hi => ⟨_, List.getElem?_eq_getElem hi⟩
      have HQQ : Hid (∀ (p : Nat × Nat), p.1 < sd n → p.2 < sd n → posOf (sd n) p < sd n * sd n) := fun p hp1 hp2 => by
        have e1 : (p.2 + 1) * sd n ≤ sd n * sd n := Nat.mul_le_mul_right _ hp2
        rw [Nat.add_mul] at e1
        unfold posOf
        omega
      generalize fromTo ws 8 ws.length = bs at HFW hbl ⊢
      generalize pathN n = ps at *
      generalize hPL : ps.length = PL at *
      generalize wordsN n = K at *
      clear hwn hwl hl hr hwr hK hwn2 hall hPL
      generalize sd n * sd n = Q at *
      generalize sd n = k at *
      go_enter Try.func31, Try.ntmps31
      skip
      go_wp2_with fail
      refine (HRV _).out.mono ?_
      rintro e w1 ⟨rfl, hx1⟩
      have HX1 := Lib.hid (((Ext.alloc w _).trans (Ext.alloc _ _)).trans hx1)
      have HG1 := Lib.hid hx1.new
      rw [World.size_alloc] at HG1
      have HB1 := Lib.hid ((Ext.alloc _ _).trans hx1)
      have HS1 : Hid (w.heap.size + 1 < w1.heap.size) := Nat.lt_of_lt_of_le (by rw [World.size_alloc, World.size_alloc]; exact Nat.lt_succ_self _) hx1.size
      clear hx1
      go_wp2_with fail
      refine (HCW _).out.mono ?_
      rintro e w2 ⟨rfl, hx2⟩
      have HX2 := Lib.hid (HX1.out.trans hx2)
      have HX12 := Lib.hid hx2
      have HGZ := Lib.hid (hx2.old HG1.out)
      clear hx2
      go_wp2_with fail
      refine (HFW _ (HWR.out.ext HX2.out)).out.mono ?_
      rintro e w3 ⟨so, sc, rfl, hr3, hl3, hm3, -, hx3⟩
      generalize hBL : bs.length = BL at hr3 hl3 hbl ⊢
      have HBL := Lib.hid hBL
      have HRB := Lib.hid hr3
      have HX3 := Lib.hid (HX2.out.trans hx3)
      have HX23 := Lib.hid hx3
      obtain ⟨z0, z1, z2⟩ := box3 (HB1.out.trans (HX12.out.trans hx3))
      clear hr3 hx3 hBL
      go_wp2_with fail
      refine (HCL _ (HR.out.ext HX3.out)).out.mono ?_
      rintro e w4 ⟨s4, rfl, ho4, hx4⟩
      obtain ⟨h, oc, rfl, hhb, hhl, hoc, hom⟩ := own_ptr ho4 (by omega)
      have HO4 := Lib.hid ho4
      have HX4 := Lib.hid hx4
      have HHB : Hid (w3.heap.size ≤ h ∧ h < w4.heap.size) := ⟨hhb, hhl⟩
      have HOC : Hid (Q ≤ oc ∧ oc ≤ 9223372036854775807) := ⟨hoc, hom⟩
      clear hhb hhl hoc hom ho4 hx4 z0 z1 z2
      go_wp2_with fail
      refine (HPR _).out.mono ?_
      rintro e w5 ⟨po, pc, rfl, hp5, hl5, hm5, hx5, hn5⟩
      have hx45 : Ext w4 w5 := (Ext.alloc _ _).trans hx5
      have HX45 := Lib.hid hx45
      have HM5 := Lib.hid (box3 hx5)
      have HPT := Lib.hid hp5
      have HPN : Hid (∀ a, po = some a → a.block ≠ h) := fun a e => by have := hn5 a e; rw [World.size_alloc] at this; have := HHB.out; omega
      have HO5 := Lib.hid (own_extN HO4.out hx45)
      have HB5 := Lib.hid (box3 (HB1.out.trans (HX12.out.trans (HX23.out.trans (HX4.out.trans hx45)))))
      have HR5 := Lib.hid (HRB.out.ext (HX4.out.trans hx45))
      have HGZ5 := Lib.hid (HX23.out.trans (HX4.out.trans hx45))
      have HRB3 := HRB
      clear hp5 hx5 hn5 hx45
      go_wp2_with fail
      go_loopw [16] (fun ii wr => ∃ i : Nat, i ≤ PL ∧ ii = .int .i64 i ∧ Hid (wr.ownsRow w3.heap.size 4 1 (.slice (some ⟨h, 0, none⟩) Q oc) Q (bools (flT k ps bs xs i))) ∧ Hid (w5.grownBy wr (some h))) (fun ii _ => PL - (intOf ii).toNat)
      case atStart => exact ⟨0, Nat.zero_le _, rfl, by rw [(HF0 bs).out]; exact HO5.out, World.grownBy.refl _ _⟩
      case round =>
        obtain ⟨i, hi, rfl, HOWN, HG⟩ := hrel
        by_cases hlt : i < PL
        · obtain ⟨⟨px, py⟩, hp⟩ := HPE.out i hlt
          have hpk := HPI.out _ (List.mem_of_getElem? hp)
          simp only at hpk
          have HFi := HFS bs i _ hp
          obtain ⟨b, off, rfl, hc1, hc2⟩ := HPT.out i _ hp
          have hbn := HPN.out ⟨b, off, none⟩ rfl
          obtain ⟨zi, hzi⟩ : ∃ zi, zi = posOf k (px, py) := ⟨_, rfl⟩
          have hzQ : zi < Q := by rw [hzi]; exact HQQ.out (px, py) hpk.1 hpk.2
          obtain ⟨P, hP⟩ : ∃ P, P = py * k := ⟨_, rfl⟩
          have hPz : P + px = zi := by rw [hzi, hP]; rfl
          have hmul : (py : Int) * (k : Int) = (P : Int) := by rw [hP, Int.natCast_mul]
          have hzI : (P : Int) + (px : Int) = (zi : Int) := by omega
          have HZ := Lib.hid hzi
          have hw1 : IntKind.i64.wrap ((P : Nat) : Int) = (P : Int) := IntWalk.i64_in _ ⟨by omega, by omega⟩
          have hw2 : IntKind.i64.wrap ((zi : Nat) : Int) = (zi : Int) := IntWalk.i64_in _ ⟨by omega, by omega⟩
          clear hP hPz hzi hp
          have hzq : (zi : Int) < (Q : Int) := by omega
          have hHB := HHB.out
          have b0 := fun V (hv : wr.grownBy V (some h)) => grown_cell (grown_trans HG.out hv) hc1 hbn
          have b1 := fun V (hv : wr.grownBy V (some h)) => grown_cell (grown_trans HG.out hv) hc2 hbn
          have b2 := fun V (hv : wr.grownBy V (some h)) => grown_cell (grown_trans HG.out hv) HM5.out.2.2 (show w4.heap.size ≠ h by omega)
          have b3 := fun V (hv : wr.grownBy V (some h)) => grown_cell (grown_trans HG.out hv) HB5.out.1 (show w.heap.size ≠ h by have := HX3.out.size; have := HS1.out; have := HX12.out.size; have := HX23.out.size; omega)
          clear hHB
          by_cases hj : i < BL
          · have hjI : (i : Int) < (BL : Int) := by omega
            obtain ⟨aw, rfl, hcw⟩ := HRB.out.at (bools_get bs i (by rw [HBL.out]; exact hj))
            have hab : (aw.add i).block < w3.heap.size := World.block_lt_of_cell? _ _ hcw
            have b4 := fun V (hv : wr.grownBy V (some h)) => grown_cell (grown_trans HG.out hv) ((HX4.out.trans HX45.out).cell hcw) (show (aw.add i).block ≠ h by have := HHB.out; omega)
            clear hcw hc1 hc2
            generalize hBJ : bs.getD i false = BJ at b4
            go_upto_region 15 with fail
            refine wp_region_held_drew (S := fun V => wr.grownBy V (some h)) (by kernel_rfl) (grown_ext (Ext.drew _) _) (fun hcur => ?_)
            skip
            refine wpAnyH_take (i := 0) (v := ?_) rfl (by kernel_rfl) (by kernel_rfl) (by kernel_rfl) (fun _ _ _ h => h) (Or.inl ⟨by rfl, ?_⟩) (by assumption) ?_
            rotate_left
            · (intro w hSw; try dsimp only at hSw); go_simp; try with_reducible rfl
            simp only [List.getElem_toArray, List.getElem_cons_zero, Act.put, List.setIfInBounds_toArray, List.set_cons_zero, List.set_cons_succ]
            skip
            refine wpAnyH_take (i := 1) (v := ?_) rfl (by kernel_rfl) (by kernel_rfl) (by kernel_rfl) (fun _ _ _ h => h) (Or.inl ⟨by rfl, ?_⟩) (by assumption) ?_
            rotate_left
            · (intro w hSw; try dsimp only at hSw); go_simp; try with_reducible rfl
            simp only [List.getElem_toArray, List.getElem_cons_zero, List.getElem_cons_succ, Act.put, List.setIfInBounds_toArray, List.set_cons_zero, List.set_cons_succ]
            skip
            refine wpAnyH_take (i := 2) (v := ?_) rfl (by kernel_rfl) (by kernel_rfl) (by kernel_rfl) (fun _ _ _ h => h) (Or.inl ⟨by rfl, ?_⟩) (by assumption) ?_
            rotate_left
            · (intro w hSw; try dsimp only at hSw); go_simp; try with_reducible rfl
            simp only [List.getElem_toArray, List.getElem_cons_zero, List.getElem_cons_succ, Act.put, List.setIfInBounds_toArray, List.set_cons_zero, List.set_cons_succ]
            skip
            refine wpAnyH_take (i := 3) (v := ?_) rfl (by kernel_rfl) (by kernel_rfl) (by kernel_rfl) (fun _ _ _ h => h) (Or.inl ⟨by rfl, ?_⟩) (by assumption) ?_
            rotate_left
            · (intro w hSw; try dsimp only at hSw); go_simp; try with_reducible rfl
            simp only [List.getElem_toArray, List.getElem_cons_zero, List.getElem_cons_succ, Act.put, List.setIfInBounds_toArray, List.set_cons_zero, List.set_cons_succ]
            skip
            refine wpAnyH_take (i := 4) (v := ?_) rfl (by kernel_rfl) (by kernel_rfl) (by kernel_rfl) (fun _ _ _ h => h) (Or.inl ⟨by rfl, ?_⟩) (by assumption) ?_
            rotate_left
            · (intro w hSw; try dsimp only at hSw); go_simp; try with_reducible rfl
            simp only [List.getElem_toArray, List.getElem_cons_zero, List.getElem_cons_succ, Act.put, List.setIfInBounds_toArray, List.set_cons_zero, List.set_cons_succ]
            skip
            refine wpAnyH_take (i := 5) (v := ?_) rfl (by kernel_rfl) (by kernel_rfl) (by kernel_rfl) (fun _ _ _ h => h) (Or.inl ⟨by rfl, ?_⟩) (by assumption) ?_
            rotate_left
            · (intro w hSw; try dsimp only at hSw); go_simp; try with_reducible rfl
            simp only [List.getElem_toArray, List.getElem_cons_zero, List.getElem_cons_succ, Act.put, List.setIfInBounds_toArray, List.set_cons_zero, List.set_cons_succ]
            skip
            refine wpAnyH_take (i := 6) (v := ?_) rfl (by kernel_rfl) (by kernel_rfl) (by kernel_rfl) (fun _ _ _ h => h) (Or.inl ⟨by rfl, ?_⟩) (by assumption) ?_
            rotate_left
            · (intro w hSw; try dsimp only at hSw); go_simp; try with_reducible rfl
            simp only [List.getElem_toArray, List.getElem_cons_zero, List.getElem_cons_succ, Act.put, List.setIfInBounds_toArray, List.set_cons_zero, List.set_cons_succ]
            skip
            refine wpAnyH_take (i := 7) (v := ?_) rfl (by kernel_rfl) (by kernel_rfl) (by kernel_rfl) (fun _ _ _ h => h) (Or.inl ⟨by rfl, ?_⟩) (by assumption) ?_
            rotate_left
            · (intro w hSw; try dsimp only at hSw); go_simp; try with_reducible rfl
            simp only [List.getElem_toArray, List.getElem_cons_zero, List.getElem_cons_succ, Act.put, List.setIfInBounds_toArray, List.set_cons_zero, List.set_cons_succ]
            skip
            refine wpAnyH_take (i := 8) (v := ?_) rfl (by kernel_rfl) (by kernel_rfl) (by kernel_rfl) (fun _ _ _ h => h) (Or.inl ⟨by rfl, ?_⟩) (by assumption) ?_
            rotate_left
            · (intro w hSw; try dsimp only at hSw); go_simp; try with_reducible rfl
            simp only [List.getElem_toArray, List.getElem_cons_zero, List.getElem_cons_succ, Act.put, List.setIfInBounds_toArray, List.set_cons_zero, List.set_cons_succ]
            skip
            refine wpAnyH_take (i := 9) (v := ?_) rfl (by kernel_rfl) (by kernel_rfl) (by kernel_rfl) (fun _ _ _ h => h) (Or.inl ⟨by rfl, ?_⟩) (by assumption) ?_
            rotate_left
            · (intro w hSw; try dsimp only at hSw); go_simp; try with_reducible rfl
            simp only [List.getElem_toArray, List.getElem_cons_zero, List.getElem_cons_succ, Act.put, List.setIfInBounds_toArray, List.set_cons_zero, List.set_cons_succ]
            skip
            refine wpAnyH_take (i := 10) (v := ?_) rfl (by kernel_rfl) (by kernel_rfl) (by kernel_rfl) (fun _ _ _ h => h) (Or.inl ⟨by rfl, ?_⟩) (by assumption) ?_
            rotate_left
            · (intro w hSw; try dsimp only at hSw); go_simp; try with_reducible rfl
            simp only [List.getElem_toArray, List.getElem_cons_zero, List.getElem_cons_succ, Act.put, List.setIfInBounds_toArray, List.set_cons_zero, List.set_cons_succ]
            skip
            refine wpAnyH_take (i := 11) (v := ?_) rfl (by kernel_rfl) (by kernel_rfl) (by kernel_rfl) (fun _ _ _ h => h) (Or.inl ⟨by rfl, ?_⟩) (by assumption) ?_
            rotate_left
            · (intro w hSw; try dsimp only at hSw); go_simp; try with_reducible rfl
            simp only [List.getElem_toArray, List.getElem_cons_zero, List.getElem_cons_succ, Act.put, List.setIfInBounds_toArray, List.set_cons_zero, List.set_cons_succ]
            skip
            refine wpAnyH_take (i := 12) (v := ?_) rfl (by kernel_rfl) (by kernel_rfl) (by kernel_rfl) (fun _ _ _ h => h) (Or.inl ⟨by rfl, ?_⟩) (by assumption) ?_
            rotate_left
            · (intro w hSw; try dsimp only at hSw); go_simp; try with_reducible rfl
            simp only [List.getElem_toArray, List.getElem_cons_zero, List.getElem_cons_succ, Act.put, List.setIfInBounds_toArray, List.set_cons_zero, List.set_cons_succ]
            skip
            refine wpAnyH_take (i := 13) (v := ?_) rfl (by kernel_rfl) (by kernel_rfl) (by kernel_rfl) (fun _ _ _ h => h) (Or.inl ⟨by rfl, ?_⟩) (by assumption) ?_
            rotate_left
            · (intro w hSw; try dsimp only at hSw); go_simp; try with_reducible rfl
            simp only [List.getElem_toArray, List.getElem_cons_zero, List.getElem_cons_succ, Act.put, List.setIfInBounds_toArray, List.set_cons_zero, List.set_cons_succ]
            skip
            refine wpAnyH_take (i := 14) (v := ?_) rfl (by kernel_rfl) (by kernel_rfl) (by kernel_rfl) (fun _ _ _ h => h) (Or.inl ⟨by rfl, ?_⟩) (by assumption) ?_
            rotate_left
            · (intro w hSw; try dsimp only at hSw); go_simp; try with_reducible rfl
            simp only [List.getElem_toArray, List.getElem_cons_zero, List.getElem_cons_succ, Act.put, List.setIfInBounds_toArray, List.set_cons_zero, List.set_cons_succ]
            skip
            refine wpAnyH_take (i := 15) (v := ?_) rfl (by kernel_rfl) (by kernel_rfl) (by kernel_rfl) (fun _ _ _ h => h) (Or.inl ⟨by rfl, ?_⟩) (by assumption) ?_
            rotate_left
            · (intro w hSw; try dsimp only at hSw); go_simp; try with_reducible rfl
            simp only [List.getElem_toArray, List.getElem_cons_zero, List.getElem_cons_succ, Act.put, List.setIfInBounds_toArray, List.set_cons_zero, List.set_cons_succ]
            skip
            refine wpAnyH_take (i := 16) (v := ?_) rfl (by kernel_rfl) (by kernel_rfl) (by kernel_rfl) (fun _ _ _ h => h) (Or.inl ⟨by rfl, ?_⟩) (by assumption) ?_
            rotate_left
            · (intro w hSw; try dsimp only at hSw); go_simp; try with_reducible rfl
            simp only [List.getElem_toArray, List.getElem_cons_zero, List.getElem_cons_succ, Act.put, List.setIfInBounds_toArray, List.set_cons_zero, List.set_cons_succ]
            skip
            refine wpAnyH_take (i := 17) (v := ?_) rfl (by kernel_rfl) (by kernel_rfl) (by kernel_rfl) (fun _ _ _ h => h) (Or.inl ⟨by rfl, ?_⟩) (by assumption) ?_
            rotate_left
            · (intro w hSw; try dsimp only at hSw); go_simp; try with_reducible rfl
            simp only [List.getElem_toArray, List.getElem_cons_zero, List.getElem_cons_succ, Act.put, List.setIfInBounds_toArray, List.set_cons_zero, List.set_cons_succ]
            skip
            refine wpAnyH_take (i := 18) (v := ?_) rfl (by kernel_rfl) (by kernel_rfl) (by kernel_rfl) (fun _ _ _ h => h) (Or.inl ⟨by rfl, ?_⟩) (by assumption) ?_
            rotate_left
            · (intro w hSw; try dsimp only at hSw); go_simp; try with_reducible rfl
            simp only [List.getElem_toArray, List.getElem_cons_zero, List.getElem_cons_succ, Act.put, List.setIfInBounds_toArray, List.set_cons_zero, List.set_cons_succ]
            skip
            refine wpAnyH_take (i := 19) (v := ?_) rfl (by kernel_rfl) (by kernel_rfl) (by kernel_rfl) (fun _ _ _ h => h) (Or.inl ⟨by rfl, ?_⟩) (by assumption) ?_
            rotate_left
            · (intro w hSw; try dsimp only at hSw); go_simp; try with_reducible rfl
            simp only [List.getElem_toArray, List.getElem_cons_zero, List.getElem_cons_succ, Act.put, List.setIfInBounds_toArray, List.set_cons_zero, List.set_cons_succ]
            skip
            refine wpAnyH_take (i := 20) (v := ?_) rfl (by kernel_rfl) (by kernel_rfl) (by kernel_rfl) (fun _ _ _ h => h) (Or.inl ⟨by rfl, ?_⟩) (by assumption) ?_
            rotate_left
            · (intro w hSw; try dsimp only at hSw); go_simp; try with_reducible rfl
            simp only [List.getElem_toArray, List.getElem_cons_zero, List.getElem_cons_succ, Act.put, List.setIfInBounds_toArray, List.set_cons_zero, List.set_cons_succ]
            skip
            refine wpAnyH_take (i := 21) (v := ?_) rfl (by kernel_rfl) (by kernel_rfl) (by kernel_rfl) (fun _ _ _ h => h) (Or.inl ⟨by rfl, ?_⟩) (by assumption) ?_
            rotate_left
            · (intro w hSw; try dsimp only at hSw); go_simp; try with_reducible rfl
            simp only [List.getElem_toArray, List.getElem_cons_zero, List.getElem_cons_succ, Act.put, List.setIfInBounds_toArray, List.set_cons_zero, List.set_cons_succ]
            skip
            refine wpAnyH_take (i := 22) (v := ?_) rfl (by kernel_rfl) (by kernel_rfl) (by kernel_rfl) (fun _ _ _ h => h) (Or.inl ⟨by rfl, ?_⟩) (by assumption) ?_
            rotate_left
            · (intro w hSw; try dsimp only at hSw); go_simp; try with_reducible rfl
            simp only [List.getElem_toArray, List.getElem_cons_zero, List.getElem_cons_succ, Act.put, List.setIfInBounds_toArray, List.set_cons_zero, List.set_cons_succ]
            skip
            refine wpAnyH_take (i := 23) (v := ?_) rfl (by kernel_rfl) (by kernel_rfl) (by kernel_rfl) (fun _ _ _ h => h) (Or.inl ⟨by rfl, ?_⟩) (by assumption) ?_
            rotate_left
            · (intro w hSw; try dsimp only at hSw); go_simp; try with_reducible rfl
            simp only [List.getElem_toArray, List.getElem_cons_zero, List.getElem_cons_succ, Act.put, List.setIfInBounds_toArray, List.set_cons_zero, List.set_cons_succ]
            skip
            refine wpAnyH_take (i := 24) (v := ?_) rfl (by kernel_rfl) (by kernel_rfl) (by kernel_rfl) (fun _ _ _ h => h) (Or.inl ⟨by rfl, ?_⟩) (by assumption) ?_
            rotate_left
            · (intro w hSw; try dsimp only at hSw); go_simp; try with_reducible rfl
            simp only [List.getElem_toArray, List.getElem_cons_zero, List.getElem_cons_succ, Act.put, List.setIfInBounds_toArray, List.set_cons_zero, List.set_cons_succ]
            skip
            refine wpAnyH_take (i := 25) (v := ?_) rfl (by kernel_rfl) (by kernel_rfl) (by kernel_rfl) (fun _ _ _ h => h) (Or.inl ⟨by rfl, ?_⟩) (by assumption) ?_
            rotate_left
            · (intro w hSw; try dsimp only at hSw); go_simp; try with_reducible rfl
            simp only [List.getElem_toArray, List.getElem_cons_zero, List.getElem_cons_succ, Act.put, List.setIfInBounds_toArray, List.set_cons_zero, List.set_cons_succ]
            skip
            refine wpAnyH_take (i := 26) (v := ?_) rfl (by kernel_rfl) (by kernel_rfl) (by kernel_rfl) (fun _ _ _ h => h) (Or.inl ⟨by rfl, ?_⟩) (by assumption) ?_
            rotate_left
            · (intro w hSw; try dsimp only at hSw); go_simp; try with_reducible rfl
            simp only [List.getElem_toArray, List.getElem_cons_zero, List.getElem_cons_succ, Act.put, List.setIfInBounds_toArray, List.set_cons_zero, List.set_cons_succ]
            have hown7 := own_extN HOWN.out (Ext.drew wr)
            obtain ⟨y2, y3⟩ := own_cell hown7 zi _ (List.getElem?_eq_getElem (show zi < (bools (flT k ps bs xs i)).length by rw [(HXL bs i).out]; exact hzQ))
            refine wpAnyH_ready (rs := [27]) (by kernel_rfl) (by simp) ?_
            refine AllReadyH.cons rfl (fun K hK => ?_) AllReadyH.nil
            go_simp
            have hS8 : wr.grownBy (wr.drew.setCell ⟨h, zi, none⟩ (.bool BJ)) (some h) := grown_trans hcur (grown_set wr.drew h zi _)
            refine hK.out _ _ hS8 (fun _ => ?_)
            clear hK K
            refine wpAnyH_done (by kernel_rfl) ?_ _
            have hown8 : Hid ((wr.drew.setCell ⟨h, zi, none⟩ (.bool BJ)).ownsRow w3.heap.size 4 1 (.slice (some ⟨h, 0, none⟩) Q oc) Q (bools (flT k ps bs xs (i + 1)))) := by
              have := own_set hown7 zi (.bool BJ)
              rw [← bools_set] at this
              show World.ownsRow _ _ _ _ _ _ _
              rw [HFi.out, hBJ, ← HZ.out]
              exact this
            have HG8 := Lib.hid (grown_trans HG.out hS8)
            clear hS8 hown7 y2 y3 b0 b1 b2 b3 b4 hcur
            go_wp2_with fail
            refine ⟨⟨i + 1, by omega, by rw [Int.natCast_succ], hown8, HG8⟩, by simp [intOf]; omega⟩
          · have hjI : ¬ (i : Int) < (BL : Int) := by omega
            have hBJ : bs.getD i false = false := by rw [List.getD_eq_getElem?_getD, List.getElem?_eq_none (by rw [HBL.out]; omega)]; rfl
            have b4 := True.intro
            clear hc1 hc2
            go_upto_region 15 with fail
            refine wp_region_held_drew (S := fun V => wr.grownBy V (some h)) (by kernel_rfl) (grown_ext (Ext.drew _) _) (fun hcur => ?_)
            skip
            refine wpAnyH_take (i := 0) (v := ?_) rfl (by kernel_rfl) (by kernel_rfl) (by kernel_rfl) (fun _ _ _ h => h) (Or.inl ⟨by rfl, ?_⟩) (by assumption) ?_
            rotate_left
            · (intro w hSw; try dsimp only at hSw); go_simp; try with_reducible rfl
            simp only [List.getElem_toArray, List.getElem_cons_zero, Act.put, List.setIfInBounds_toArray, List.set_cons_zero, List.set_cons_succ]
            skip
            refine wpAnyH_take (i := 1) (v := ?_) rfl (by kernel_rfl) (by kernel_rfl) (by kernel_rfl) (fun _ _ _ h => h) (Or.inl ⟨by rfl, ?_⟩) (by assumption) ?_
            rotate_left
            · (intro w hSw; try dsimp only at hSw); go_simp; try with_reducible rfl
            simp only [List.getElem_toArray, List.getElem_cons_zero, List.getElem_cons_succ, Act.put, List.setIfInBounds_toArray, List.set_cons_zero, List.set_cons_succ]
            skip
            refine wpAnyH_take (i := 2) (v := ?_) rfl (by kernel_rfl) (by kernel_rfl) (by kernel_rfl) (fun _ _ _ h => h) (Or.inl ⟨by rfl, ?_⟩) (by assumption) ?_
            rotate_left
            · (intro w hSw; try dsimp only at hSw); go_simp; try with_reducible rfl
            simp only [List.getElem_toArray, List.getElem_cons_zero, List.getElem_cons_succ, Act.put, List.setIfInBounds_toArray, List.set_cons_zero, List.set_cons_succ]
            skip
            refine wpAnyH_take (i := 3) (v := ?_) rfl (by kernel_rfl) (by kernel_rfl) (by kernel_rfl) (fun _ _ _ h => h) (Or.inl ⟨by rfl, ?_⟩) (by assumption) ?_
            rotate_left
            · (intro w hSw; try dsimp only at hSw); go_simp; try with_reducible rfl
            simp only [List.getElem_toArray, List.getElem_cons_zero, List.getElem_cons_succ, Act.put, List.setIfInBounds_toArray, List.set_cons_zero, List.set_cons_succ]
            skip
            refine wpAnyH_take (i := 4) (v := ?_) rfl (by kernel_rfl) (by kernel_rfl) (by kernel_rfl) (fun _ _ _ h => h) (Or.inl ⟨by rfl, ?_⟩) (by assumption) ?_
            rotate_left
            · (intro w hSw; try dsimp only at hSw); go_simp; try with_reducible rfl
            simp only [List.getElem_toArray, List.getElem_cons_zero, List.getElem_cons_succ, Act.put, List.setIfInBounds_toArray, List.set_cons_zero, List.set_cons_succ]
            skip
            refine wpAnyH_take (i := 5) (v := ?_) rfl (by kernel_rfl) (by kernel_rfl) (by kernel_rfl) (fun _ _ _ h => h) (Or.inl ⟨by rfl, ?_⟩) (by assumption) ?_
            rotate_left
            · (intro w hSw; try dsimp only at hSw); go_simp; try with_reducible rfl
            simp only [List.getElem_toArray, List.getElem_cons_zero, List.getElem_cons_succ, Act.put, List.setIfInBounds_toArray, List.set_cons_zero, List.set_cons_succ]
            skip
            refine wpAnyH_take (i := 6) (v := ?_) rfl (by kernel_rfl) (by kernel_rfl) (by kernel_rfl) (fun _ _ _ h => h) (Or.inl ⟨by rfl, ?_⟩) (by assumption) ?_
            rotate_left
            · (intro w hSw; try dsimp only at hSw); go_simp; try with_reducible rfl
            simp only [List.getElem_toArray, List.getElem_cons_zero, List.getElem_cons_succ, Act.put, List.setIfInBounds_toArray, List.set_cons_zero, List.set_cons_succ]
            skip
            refine wpAnyH_take (i := 7) (v := ?_) rfl (by kernel_rfl) (by kernel_rfl) (by kernel_rfl) (fun _ _ _ h => h) (Or.inl ⟨by rfl, ?_⟩) (by assumption) ?_
            rotate_left
            · (intro w hSw; try dsimp only at hSw); go_simp; try with_reducible rfl
            simp only [List.getElem_toArray, List.getElem_cons_zero, List.getElem_cons_succ, Act.put, List.setIfInBounds_toArray, List.set_cons_zero, List.set_cons_succ]
            skip
            refine wpAnyH_take (i := 8) (v := ?_) rfl (by kernel_rfl) (by kernel_rfl) (by kernel_rfl) (fun _ _ _ h => h) (Or.inl ⟨by rfl, ?_⟩) (by assumption) ?_
            rotate_left
            · (intro w hSw; try dsimp only at hSw); go_simp; try with_reducible rfl
            simp only [List.getElem_toArray, List.getElem_cons_zero, List.getElem_cons_succ, Act.put, List.setIfInBounds_toArray, List.set_cons_zero, List.set_cons_succ]
            skip
            refine wpAnyH_take (i := 9) (v := ?_) rfl (by kernel_rfl) (by kernel_rfl) (by kernel_rfl) (fun _ _ _ h => h) (Or.inl ⟨by rfl, ?_⟩) (by assumption) ?_
            rotate_left
            · (intro w hSw; try dsimp only at hSw); go_simp; try with_reducible rfl
            simp only [List.getElem_toArray, List.getElem_cons_zero, List.getElem_cons_succ, Act.put, List.setIfInBounds_toArray, List.set_cons_zero, List.set_cons_succ]
            skip
            refine wpAnyH_take (i := 10) (v := ?_) rfl (by kernel_rfl) (by kernel_rfl) (by kernel_rfl) (fun _ _ _ h => h) (Or.inl ⟨by rfl, ?_⟩) (by assumption) ?_
            rotate_left
            · (intro w hSw; try dsimp only at hSw); go_simp; try with_reducible rfl
            simp only [List.getElem_toArray, List.getElem_cons_zero, List.getElem_cons_succ, Act.put, List.setIfInBounds_toArray, List.set_cons_zero, List.set_cons_succ]
            skip
            refine wpAnyH_take (i := 11) (v := ?_) rfl (by kernel_rfl) (by kernel_rfl) (by kernel_rfl) (fun _ _ _ h => h) (Or.inl ⟨by rfl, ?_⟩) (by assumption) ?_
            rotate_left
            · (intro w hSw; try dsimp only at hSw); go_simp; try with_reducible rfl
            simp only [List.getElem_toArray, List.getElem_cons_zero, List.getElem_cons_succ, Act.put, List.setIfInBounds_toArray, List.set_cons_zero, List.set_cons_succ]
            skip
            refine wpAnyH_take (i := 12) (v := ?_) rfl (by kernel_rfl) (by kernel_rfl) (by kernel_rfl) (fun _ _ _ h => h) (Or.inl ⟨by rfl, ?_⟩) (by assumption) ?_
            rotate_left
            · (intro w hSw; try dsimp only at hSw); go_simp; try with_reducible rfl
            simp only [List.getElem_toArray, List.getElem_cons_zero, List.getElem_cons_succ, Act.put, List.setIfInBounds_toArray, List.set_cons_zero, List.set_cons_succ]
            skip
            refine wpAnyH_take (i := 13) (v := ?_) rfl (by kernel_rfl) (by kernel_rfl) (by kernel_rfl) (fun _ _ _ h => h) (Or.inl ⟨by rfl, ?_⟩) (by assumption) ?_
            rotate_left
            · (intro w hSw; try dsimp only at hSw); go_simp; try with_reducible rfl
            simp only [List.getElem_toArray, List.getElem_cons_zero, List.getElem_cons_succ, Act.put, List.setIfInBounds_toArray, List.set_cons_zero, List.set_cons_succ]
            skip
            refine wpAnyH_take (i := 14) (v := ?_) rfl (by kernel_rfl) (by kernel_rfl) (by kernel_rfl) (fun _ _ _ h => h) (Or.inl ⟨by rfl, ?_⟩) (by assumption) ?_
            rotate_left
            · (intro w hSw; try dsimp only at hSw); go_simp; try with_reducible rfl
            simp only [List.getElem_toArray, List.getElem_cons_zero, List.getElem_cons_succ, Act.put, List.setIfInBounds_toArray, List.set_cons_zero, List.set_cons_succ]
            skip
            refine wpAnyH_take (i := 15) (v := ?_) rfl (by kernel_rfl) (by kernel_rfl) (by kernel_rfl) (fun _ _ _ h => h) (Or.inl ⟨by rfl, ?_⟩) (by assumption) ?_
            rotate_left
            · (intro w hSw; try dsimp only at hSw); go_simp; try with_reducible rfl
            simp only [List.getElem_toArray, List.getElem_cons_zero, List.getElem_cons_succ, Act.put, List.setIfInBounds_toArray, List.set_cons_zero, List.set_cons_succ]
            skip
            refine wpAnyH_take (i := 16) (v := ?_) rfl (by kernel_rfl) (by kernel_rfl) (by kernel_rfl) (fun _ _ _ h => h) (Or.inl ⟨by rfl, ?_⟩) (by assumption) ?_
            rotate_left
            · (intro w hSw; try dsimp only at hSw); go_simp; try with_reducible rfl
            simp only [List.getElem_toArray, List.getElem_cons_zero, List.getElem_cons_succ, Act.put, List.setIfInBounds_toArray, List.set_cons_zero, List.set_cons_succ]
            skip
            refine wpAnyH_take (i := 17) (v := ?_) rfl (by kernel_rfl) (by kernel_rfl) (by kernel_rfl) (fun _ _ _ h => h) (Or.inl ⟨by rfl, ?_⟩) (by assumption) ?_
            rotate_left
            · (intro w hSw; try dsimp only at hSw); go_simp; try with_reducible rfl
            simp only [List.getElem_toArray, List.getElem_cons_zero, List.getElem_cons_succ, Act.put, List.setIfInBounds_toArray, List.set_cons_zero, List.set_cons_succ]
            skip
            refine wpAnyH_take (i := 18) (v := ?_) rfl (by kernel_rfl) (by kernel_rfl) (by kernel_rfl) (fun _ _ _ h => h) (Or.inl ⟨by rfl, ?_⟩) (by assumption) ?_
            rotate_left
            · (intro w hSw; try dsimp only at hSw); go_simp; try with_reducible rfl
            simp only [List.getElem_toArray, List.getElem_cons_zero, List.getElem_cons_succ, Act.put, List.setIfInBounds_toArray, List.set_cons_zero, List.set_cons_succ]
            skip
            refine wpAnyH_take (i := 19) (v := ?_) rfl (by kernel_rfl) (by kernel_rfl) (by kernel_rfl) (fun _ _ _ h => h) (Or.inl ⟨by rfl, ?_⟩) (by assumption) ?_
            rotate_left
            · (intro w hSw; try dsimp only at hSw); go_simp; try with_reducible rfl
            simp only [List.getElem_toArray, List.getElem_cons_zero, List.getElem_cons_succ, Act.put, List.setIfInBounds_toArray, List.set_cons_zero, List.set_cons_succ]
            skip
            refine wpAnyH_take (i := 20) (v := ?_) rfl (by kernel_rfl) (by kernel_rfl) (by kernel_rfl) (fun _ _ _ h => h) (Or.inl ⟨by rfl, ?_⟩) (by assumption) ?_
            rotate_left
            · (intro w hSw; try dsimp only at hSw); go_simp; try with_reducible rfl
            simp only [List.getElem_toArray, List.getElem_cons_zero, List.getElem_cons_succ, Act.put, List.setIfInBounds_toArray, List.set_cons_zero, List.set_cons_succ]
            skip
            refine wpAnyH_take (i := 21) (v := undef) rfl (by kernel_rfl) (by kernel_rfl) (by kernel_rfl) (fun _ _ _ h => h) (Or.inr ⟨by rfl, rfl⟩) (by assumption) ?_
            simp only [List.getElem_toArray, List.getElem_cons_zero, List.getElem_cons_succ, Act.put, List.setIfInBounds_toArray, List.set_cons_zero, List.set_cons_succ]
            skip
            refine wpAnyH_take (i := 22) (v := undef) rfl (by kernel_rfl) (by kernel_rfl) (by kernel_rfl) (fun _ _ _ h => h) (Or.inr ⟨by rfl, rfl⟩) (by assumption) ?_
            simp only [List.getElem_toArray, List.getElem_cons_zero, List.getElem_cons_succ, Act.put, List.setIfInBounds_toArray, List.set_cons_zero, List.set_cons_succ]
            skip
            refine wpAnyH_take (i := 23) (v := undef) rfl (by kernel_rfl) (by kernel_rfl) (by kernel_rfl) (fun _ _ _ h => h) (Or.inr ⟨by rfl, rfl⟩) (by assumption) ?_
            simp only [List.getElem_toArray, List.getElem_cons_zero, List.getElem_cons_succ, Act.put, List.setIfInBounds_toArray, List.set_cons_zero, List.set_cons_succ]
            skip
            refine wpAnyH_take (i := 24) (v := undef) rfl (by kernel_rfl) (by kernel_rfl) (by kernel_rfl) (fun _ _ _ h => h) (Or.inr ⟨by rfl, rfl⟩) (by assumption) ?_
            simp only [List.getElem_toArray, List.getElem_cons_zero, List.getElem_cons_succ, Act.put, List.setIfInBounds_toArray, List.set_cons_zero, List.set_cons_succ]
            skip
            refine wpAnyH_take (i := 25) (v := ?_) rfl (by kernel_rfl) (by kernel_rfl) (by kernel_rfl) (fun _ _ _ h => h) (Or.inl ⟨by rfl, ?_⟩) (by assumption) ?_
            rotate_left
            · (intro w hSw; try dsimp only at hSw); go_simp; try with_reducible rfl
            simp only [List.getElem_toArray, List.getElem_cons_zero, List.getElem_cons_succ, Act.put, List.setIfInBounds_toArray, List.set_cons_zero, List.set_cons_succ]
            skip
            refine wpAnyH_take (i := 26) (v := ?_) rfl (by kernel_rfl) (by kernel_rfl) (by kernel_rfl) (fun _ _ _ h => h) (Or.inl ⟨by rfl, ?_⟩) (by assumption) ?_
            rotate_left
            · (intro w hSw; try dsimp only at hSw); go_simp; try with_reducible rfl
            simp only [List.getElem_toArray, List.getElem_cons_zero, List.getElem_cons_succ, Act.put, List.setIfInBounds_toArray, List.set_cons_zero, List.set_cons_succ]
            have hown7 := own_extN HOWN.out (Ext.drew wr)
            obtain ⟨y2, y3⟩ := own_cell hown7 zi _ (List.getElem?_eq_getElem (show zi < (bools (flT k ps bs xs i)).length by rw [(HXL bs i).out]; exact hzQ))
            refine wpAnyH_ready (rs := [27]) (by kernel_rfl) (by simp) ?_
            refine AllReadyH.cons rfl (fun K hK => ?_) AllReadyH.nil
            go_simp
            have hS8 : wr.grownBy (wr.drew.setCell ⟨h, zi, none⟩ (.bool false)) (some h) := grown_trans hcur (grown_set wr.drew h zi _)
            refine hK.out _ _ hS8 (fun _ => ?_)
            clear hK K
            refine wpAnyH_done (by kernel_rfl) ?_ _
            have hown8 : Hid ((wr.drew.setCell ⟨h, zi, none⟩ (.bool false)).ownsRow w3.heap.size 4 1 (.slice (some ⟨h, 0, none⟩) Q oc) Q (bools (flT k ps bs xs (i + 1)))) := by
              have := own_set hown7 zi (.bool false)
              rw [← bools_set] at this
              show World.ownsRow _ _ _ _ _ _ _
              rw [HFi.out, hBJ, ← HZ.out]
              exact this
            have HG8 := Lib.hid (grown_trans HG.out hS8)
            clear hS8 hown7 y2 y3 b0 b1 b2 b3 b4 hcur
            go_wp2_with fail
            refine ⟨⟨i + 1, by omega, by rw [Int.natCast_succ], hown8, HG8⟩, by simp [intOf]; omega⟩
        · obtain rfl : i = PL := by omega
          have q1 := HX1.out.size
          have q2 := HX12.out.size
          have q3 := HX23.out.size
          have q4 := HHB.out
          have q5 := HS1.out
          have c0 := grown_cell HG.out HM5.out.1 (show w4.heap.size ≠ h by omega)
          have c1 := grown_cell HG.out HM5.out.2.1 (show w4.heap.size ≠ h by omega)
          have c2 := grown_cell HG.out HM5.out.2.2 (show w4.heap.size ≠ h by omega)
          have hz5 := HGZ5.out.old HGZ.out
          have hzw := (HG.out.block _ (Array.getElem?_eq_some_iff.1 hz5).1 (fun e => by have := Option.some.inj e; omega)).trans hz5
          have hxw : Ext w wr := ext_grown (HX3.out.trans (HX4.out.trans HX45.out)) HG.out (by omega)
          go_wp2_with ((with_reducible show wpList _ _ _ (⟨none, .store 24 _ _, _, _, _, _⟩ :: _) _ _); refine wpList_storeOwnK rfl 24 _ _ rfl (w.heap.size + 1) _ rfl rfl 24 _ hzw (by kernel_rfl) (by kernel_rfl) (by kernel_rfl) w hxw (Nat.le_succ _) ?_; intro wz HXz HGz HKz)
          refine bodyPost_ret (results_cellSlot rfl _ wz (w.heap.size + 1) 24 _ (0, 0) _ rfl HGz.out Try.underlying24 rfl (by kernel_rfl)) rfl ?_
          exact ⟨_, rfl, by rw [(HFE bs).out]; exact own_base (own_off HOWN.out HKz.out (fun e => by have e2 : h = w.heap.size + 1 := (by simpa [Value.ownBlock] using e); omega)) (by omega), HXz⟩
    · rw [show fillRes n xs ws = ((0, 0, []), 3) from by unfold fillRes; rw [if_neg hwn, if_neg hall]]
      have hf4 : fromRes ws 8 = ([], 3) := by unfold fromRes; rw [if_neg (by omega), if_neg (by omega)]; exact if_neg hall
      rw [hf4] at HFW
      simp only at HFW
      generalize wordsN n = K at *
      clear hwn hwl hl hr hwr hK hwn2 hall hf4
      generalize sd n * sd n = Q at *
      generalize sd n = k at *
      go_enter Try.func31, Try.ntmps31
      skip
      go_wp2_with fail
      refine (HRV _).out.mono ?_
      rintro e w1 ⟨rfl, hx1⟩
      have HX1 := Lib.hid (((Ext.alloc w _).trans (Ext.alloc _ _)).trans hx1)
      have HG1 := Lib.hid hx1.new
      rw [World.size_alloc] at HG1
      have HB1 := Lib.hid ((Ext.alloc _ _).trans hx1)
      have HS1 : Hid (w.heap.size + 1 < w1.heap.size) := Nat.lt_of_lt_of_le (by rw [World.size_alloc, World.size_alloc]; exact Nat.lt_succ_self _) hx1.size
      clear hx1
      go_wp2_with fail
      refine (HCW _).out.mono ?_
      rintro e w2 ⟨rfl, hx2⟩
      have HX2 := Lib.hid (HX1.out.trans hx2)
      have HX12 := Lib.hid hx2
      have HGZ := Lib.hid (hx2.old HG1.out)
      clear hx2
      go_wp2_with fail
      refine (HFW _ (HWR.out.ext HX2.out)).out.mono ?_
      rintro e w3 ⟨so, sc, rfl, hr3, hl3, hm3, -, hx3⟩
      have HX3 := Lib.hid (HX2.out.trans hx3)
      have HGZ3 := Lib.hid (hx3.old HGZ.out)
      clear hr3 hx3
      skip
      go_wp2_with ((with_reducible show wpList _ _ _ (⟨none, .store 24 _ _, _, _, _, _⟩ :: _) _ _); refine wpList_storeOwnK rfl 24 _ _ rfl (w.heap.size + 1) _ rfl rfl 24 _ HGZ3.out (by kernel_rfl) (by kernel_rfl) (by kernel_rfl) w HX3.out (Nat.le_succ _) ?_; intro w3 HX3 HG3 HK3)
      refine bodyPost_ret (results_cellSlot rfl _ w3 (w.heap.size + 1) 24 _ (0, 0) _ rfl HG3.out Try.underlying24 rfl (by kernel_rfl)) rfl ?_
      exact RetMat.nil _ _ _ _ HX3

set_option maxRecDepth 20000 in
set_option maxHeartbeats 1000000 in
theorem rfill_no (W H : Int) (ao : Option Addr) (n cap : Nat) (v : Value) (w : World) (hc : mcode W H n ≠ 0) :
    Calls Try.prog 31 #[.agg (matV W H ao n cap), v] w (RetMat 4 w ((0, 0, []), mcode W H n)) := by
  have HRV := fun (V : World) => Lib.hid (rversion20_no W H ao n cap V hc)
  have hc' : (mcode W H n != 0) = true := by simpa using hc
  unfold two at HRV
  unfold matV at *
  simp only at HRV
  clear hc
  generalize mcode W H n = C at HRV hc' ⊢
  go_enter Try.func31, Try.ntmps31
  go_wp2_with fail
  refine (HRV _).out.mono ?_
  rintro e w1 ⟨rfl, hx1⟩
  have HX1 := Lib.hid (((Ext.alloc w _).trans (Ext.alloc _ _)).trans hx1)
  have HG1 := Lib.hid hx1.new
  rw [World.size_alloc] at HG1
  clear hx1
  skip
  go_wp2_with ((with_reducible show wpList _ _ _ (⟨none, .store 24 _ _, _, _, _, _⟩ :: _) _ _); refine wpList_storeOwnK rfl 24 _ _ rfl (w.heap.size + 1) _ rfl rfl 24 _ HG1.out (by kernel_rfl) (by kernel_rfl) (by kernel_rfl) w HX1.out (Nat.le_succ _) ?_; intro w3 HX3 HG3 HK3)
  refine bodyPost_ret (results_cellSlot rfl _ w3 (w.heap.size + 1) 24 _ (0, 0) _ rfl HG3.out Try.underlying24 rfl (by kernel_rfl)) rfl ?_
  exact RetMat.nil _ _ _ _ HX3

end Go.Proofs.Ytjkpdhcnklgfbaa

namespace Go.Proofs.Ytjkpdhcnklgfbaa
open Go.RowKit Go.Bs Go.Qrv Go.Lay Go.Shelf



set_option maxRecDepth 100000 in
set_option maxHeartbeats 4000000 in
theorem rextract_ok (n : Nat) (h1 : 1 ≤ n) (h2 : n ≤ 40) (hlen : 8 * wordsN n ≤ (pathN n).length) (xs : List Bool) (ao : Option Addr) (cap : Nat) (w : World) (hl : xs.length = sd n * sd n) (hr : Row w ao (bools xs)) :
    Calls Try.prog 33 #[.agg (matV (sd n) (sd n) ao (sd n * sd n) cap)] w (RetSl w (ints (wordsRes (exL n xs) 8 false).1, (wordsRes (exL n xs) 8 false).2)) := by
  have hsb : 21 ≤ sd n ∧ sd n ≤ 177 := by unfold sd; omega
  have hin : inV n := ⟨by omega, by omega⟩
  have hQb : 441 ≤ sd n * sd n ∧ sd n * sd n ≤ 31329 := ⟨Nat.mul_le_mul hsb.1 hsb.1, Nat.mul_le_mul hsb.2 hsb.2⟩
  have HRV := fun (V : World) => Lib.hid (rversion20_ok n h1 h2 ao cap V)
  have HCW := fun (V : World) => Lib.hid (rcodewords_any n V)
  rw [cwRes_1 hin] at HCW
  unfold three at HCW
  unfold two at HRV
  unfold matV at *
  simp only at HCW HRV
  have HR := Lib.hid hr
  have hK := wordsN_le n h2
  have HPR := fun (V : World) => Lib.hid (rpath_own n V)
  rw [pathRes_1 hin] at HPR
  have hpl := pathN_len n h2
  have HPI := Lib.hid (pathN_in n)
  unfold RetPtsB at HPR
  have HWD := fun (bo : Option Addr) (l c : Nat) (ys : List Bool) (V : World) (a1 : ys.length = l) (a2 : l ≤ 1048576) (a3 : Row V bo (bools ys)) => Lib.hid (rwords_any bo l c ys 8 false V a1 a2 a3)
  have HXT := fun (i : Nat) (hi : i < sd n * sd n) => Lib.hid (bools_get xs i (by omega))
  have HEX : Hid (exL n xs = exB (sd n) xs ((pathN n).take (8 * wordsN n))) := rfl
  have HPE : Hid (∀ i, i < (pathN n).length → ∃ p, (pathN n)[i]? = some p) := fun i hi => ⟨_, List.getElem?_eq_getElem hi⟩
  have HES := fun (i : Nat) (p : Nat × Nat) (h : (pathN n)[i]? = some p) => Lib.hid (show exB (sd n) xs ((pathN n).take (i + 1)) = exB (sd n) xs ((pathN n).take i) ++ [xs.getD (posOf (sd n) p) false] by
    rw [List.take_add_one, h]
    exact exB_snoc _ _ _ _)
  have HEL := fun (i : Nat) (h : i ≤ (pathN n).length) => Lib.hid (show (exB (sd n) xs ((pathN n).take i)).length = i by rw [exB_len, List.length_take]; omega)
  have HE0 : Hid (exB (sd n) xs ((pathN n).take 0) = []) := rfl
  have HQQ : Hid (∀ (p : Nat × Nat), p.1 < sd n → p.2 < sd n → posOf (sd n) p < sd n * sd n) := fun p hp1 hp2 => by
    have e1 : (p.2 + 1) * sd n ≤ sd n * sd n := Nat.mul_le_mul_right _ hp2
    rw [Nat.add_mul] at e1
    unfold posOf
    omega
  generalize exL n xs = EX at *
  generalize wordsN n = K at *
  generalize pathN n = ps at *
  generalize hPL : ps.length = PL at *
  clear hPL hl hr
  generalize sd n * sd n = Q at *
  generalize sd n = k at *
  go_enter Try.func33, Try.ntmps33
  go_wp2_with fail
  refine (HRV _).out.mono ?_
  rintro e w1 ⟨rfl, hx1⟩
  have HB1 := Lib.hid hx1
  clear hx1
  go_wp2_with fail
  refine (HCW _).out.mono ?_
  rintro e w2 ⟨rfl, hx2⟩
  have HX12 := Lib.hid hx2
  clear hx2
  go_wp2_with fail
  refine (HPR _).out.mono ?_
  rintro e w3 ⟨po, pc, rfl, hp3, hl3, hm3, hx3, hn3⟩
  have HX3 := Lib.hid (HX12.out.trans hx3)
  have HMM := Lib.hid (box3 (HB1.out.trans HX3.out))
  have HXW := Lib.hid ((Ext.alloc w _).trans (HB1.out.trans HX3.out))
  have HPT := Lib.hid hp3
  have HS1 : Hid (w.heap.size < w3.heap.size) := World.block_lt_of_cell? w3 ⟨w.heap.size, 0, none⟩ HMM.out.1
  clear hp3 hx3 hn3
  go_wp2_with fail
  go_loopw [11, 12] (fun oo ii wr => ∃ i : Nat, i ≤ 8 * K ∧ ii = .int .i64 i ∧ Hid (wr.ownsRow w3.heap.size 4 1 oo i (bools (exB k xs (ps.take i)))) ∧ Hid (Ext w3 wr)) (fun _ ii _ => 8 * K - (intOf ii).toNat)
  case atStart => exact ⟨0, Nat.zero_le _, rfl, by rw [HE0.out]; exact World.ownsRow_nil _ _ _ _, Ext.refl _⟩
  case round =>
    obtain ⟨i, hi, rfl, HOWN, HX⟩ := hrel
    by_cases hlt : i < 8 * K
    · have hip : i < PL := by omega
      obtain ⟨⟨px, py⟩, hp⟩ := HPE.out i hip
      have hpk := HPI.out _ (List.mem_of_getElem? hp)
      simp only at hpk
      have HESi := HES i _ hp
      obtain ⟨b, off, rfl, hc1, hc2⟩ := HPT.out i _ hp
      obtain ⟨zi, hzi⟩ : ∃ zi, zi = posOf k (px, py) := ⟨_, rfl⟩
      have hzQ : zi < Q := by rw [hzi]; exact HQQ.out (px, py) hpk.1 hpk.2
      obtain ⟨P, hP⟩ : ∃ P, P = py * k := ⟨_, rfl⟩
      have hPz : P + px = zi := by rw [hzi, hP]; rfl
      have hmul : (py : Int) * (k : Int) = (P : Int) := by rw [hP, Int.natCast_mul]
      have hzI : (P : Int) + (px : Int) = (zi : Int) := by omega
      have HZ := Lib.hid hzi
      have hw1 : IntKind.i64.wrap ((P : Nat) : Int) = (P : Int) := IntWalk.i64_in _ ⟨by omega, by omega⟩
      have hw2 : IntKind.i64.wrap ((zi : Nat) : Int) = (zi : Int) := IntWalk.i64_in _ ⟨by omega, by omega⟩
      clear hP hPz hzi hp
      have hzq : (zi : Int) < (Q : Int) := by omega
      obtain ⟨so, sc, rfl, hso1, hso2, hso3, hso4⟩ := own_row HOWN.out
      obtain ⟨ad, rfl, hcd⟩ := HR.out.at (HXT zi hzQ).out
      have hob : ∀ j, j < w3.heap.size → (Value.slice so i sc).ownBlock ≠ some j := fun j hj => own_below HOWN.out hj
      have hs1 := HS1.out
      have hbb : b < w3.heap.size := World.block_lt_of_cell? _ _ hc1
      have hdb : (ad.add zi).block < w3.heap.size := World.block_lt_of_cell? _ _ (HXW.out.cell hcd)
      have b0 := fun V (hv : Kept w3.heap.size (.slice so i sc) wr V) => hv _ _ (show b ≠ _ by omega) (hob b hbb) (HX.out.cell hc1)
      have b1 := fun V (hv : Kept w3.heap.size (.slice so i sc) wr V) => hv _ _ (show b ≠ _ by omega) (hob b hbb) (HX.out.cell hc2)
      have b2 := fun V (hv : Kept w3.heap.size (.slice so i sc) wr V) => hv _ _ (show w.heap.size ≠ _ by omega) (hob _ hs1) (HX.out.cell HMM.out.1)
      have b3 := fun V (hv : Kept w3.heap.size (.slice so i sc) wr V) => hv _ _ (show w.heap.size ≠ _ by omega) (hob _ hs1) (HX.out.cell HMM.out.2.2)
      have b4 := fun V (hv : Kept w3.heap.size (.slice so i sc) wr V) => hv _ _ (show (ad.add zi).block ≠ _ by omega) (hob _ hdb) (HX.out.cell (HXW.out.cell hcd))
      generalize hBJ : xs.getD zi false = BJ at b4
      clear hc1 hc2 hcd hob hbb hdb hso4
      go_upto_region 10 with fail
      refine wp_region_held_drew (S := fun V => Kept w3.heap.size (.slice so i sc) wr V) (by kernel_rfl) (kept_of (Ext.drew _)) (fun hcur => ?_)
      skip
      refine wpAnyH_take (i := 0) (v := ?_) rfl (by kernel_rfl) (by kernel_rfl) (by kernel_rfl) (fun _ _ _ h => h) (Or.inl ⟨by rfl, ?_⟩) (by assumption) ?_
      rotate_left
      · (intro w hSw; try dsimp only at hSw); go_simp; try with_reducible rfl
      simp only [List.getElem_toArray, List.getElem_cons_zero, Act.put, List.setIfInBounds_toArray, List.set_cons_zero, List.set_cons_succ]
      skip
      refine wpAnyH_take (i := 1) (v := ?_) rfl (by kernel_rfl) (by kernel_rfl) (by kernel_rfl) (fun _ _ _ h => h) (Or.inl ⟨by rfl, ?_⟩) (by assumption) ?_
      rotate_left
      · (intro w hSw; try dsimp only at hSw); go_simp; try with_reducible rfl
      simp only [List.getElem_toArray, List.getElem_cons_zero, List.getElem_cons_succ, Act.put, List.setIfInBounds_toArray, List.set_cons_zero, List.set_cons_succ]
      skip
      refine wpAnyH_take (i := 2) (v := ?_) rfl (by kernel_rfl) (by kernel_rfl) (by kernel_rfl) (fun _ _ _ h => h) (Or.inl ⟨by rfl, ?_⟩) (by assumption) ?_
      rotate_left
      · (intro w hSw; try dsimp only at hSw); go_simp; try with_reducible rfl
      simp only [List.getElem_toArray, List.getElem_cons_zero, List.getElem_cons_succ, Act.put, List.setIfInBounds_toArray, List.set_cons_zero, List.set_cons_succ]
      skip
      refine wpAnyH_take (i := 3) (v := ?_) rfl (by kernel_rfl) (by kernel_rfl) (by kernel_rfl) (fun _ _ _ h => h) (Or.inl ⟨by rfl, ?_⟩) (by assumption) ?_
      rotate_left
      · (intro w hSw; try dsimp only at hSw); go_simp; try with_reducible rfl
      simp only [List.getElem_toArray, List.getElem_cons_zero, List.getElem_cons_succ, Act.put, List.setIfInBounds_toArray, List.set_cons_zero, List.set_cons_succ]
      skip
      refine wpAnyH_take (i := 4) (v := ?_) rfl (by kernel_rfl) (by kernel_rfl) (by kernel_rfl) (fun _ _ _ h => h) (Or.inl ⟨by rfl, ?_⟩) (by assumption) ?_
      rotate_left
      · (intro w hSw; try dsimp only at hSw); go_simp; try with_reducible rfl
      simp only [List.getElem_toArray, List.getElem_cons_zero, List.getElem_cons_succ, Act.put, List.setIfInBounds_toArray, List.set_cons_zero, List.set_cons_succ]
      skip
      refine wpAnyH_take (i := 5) (v := ?_) rfl (by kernel_rfl) (by kernel_rfl) (by kernel_rfl) (fun _ _ _ h => h) (Or.inl ⟨by rfl, ?_⟩) (by assumption) ?_
      rotate_left
      · (intro w hSw; try dsimp only at hSw); go_simp; try with_reducible rfl
      simp only [List.getElem_toArray, List.getElem_cons_zero, List.getElem_cons_succ, Act.put, List.setIfInBounds_toArray, List.set_cons_zero, List.set_cons_succ]
      skip
      refine wpAnyH_take (i := 6) (v := ?_) rfl (by kernel_rfl) (by kernel_rfl) (by kernel_rfl) (fun _ _ _ h => h) (Or.inl ⟨by rfl, ?_⟩) (by assumption) ?_
      rotate_left
      · (intro w hSw; try dsimp only at hSw); go_simp; try with_reducible rfl
      simp only [List.getElem_toArray, List.getElem_cons_zero, List.getElem_cons_succ, Act.put, List.setIfInBounds_toArray, List.set_cons_zero, List.set_cons_succ]
      skip
      refine wpAnyH_take (i := 7) (v := ?_) rfl (by kernel_rfl) (by kernel_rfl) (by kernel_rfl) (fun _ _ _ h => h) (Or.inl ⟨by rfl, ?_⟩) (by assumption) ?_
      rotate_left
      · (intro w hSw; try dsimp only at hSw); go_simp; try with_reducible rfl
      simp only [List.getElem_toArray, List.getElem_cons_zero, List.getElem_cons_succ, Act.put, List.setIfInBounds_toArray, List.set_cons_zero, List.set_cons_succ]
      skip
      refine wpAnyH_take (i := 8) (v := ?_) rfl (by kernel_rfl) (by kernel_rfl) (by kernel_rfl) (fun _ _ _ h => h) (Or.inl ⟨by rfl, ?_⟩) (by assumption) ?_
      rotate_left
      · (intro w hSw; try dsimp only at hSw); go_simp; try with_reducible rfl
      simp only [List.getElem_toArray, List.getElem_cons_zero, List.getElem_cons_succ, Act.put, List.setIfInBounds_toArray, List.set_cons_zero, List.set_cons_succ]
      skip
      refine wpAnyH_take (i := 9) (v := ?_) rfl (by kernel_rfl) (by kernel_rfl) (by kernel_rfl) (fun _ _ _ h => h) (Or.inl ⟨by rfl, ?_⟩) (by assumption) ?_
      rotate_left
      · (intro w hSw; try dsimp only at hSw); go_simp; try with_reducible rfl
      simp only [List.getElem_toArray, List.getElem_cons_zero, List.getElem_cons_succ, Act.put, List.setIfInBounds_toArray, List.set_cons_zero, List.set_cons_succ]
      skip
      refine wpAnyH_take (i := 10) (v := ?_) rfl (by kernel_rfl) (by kernel_rfl) (by kernel_rfl) (fun _ _ _ h => h) (Or.inl ⟨by rfl, ?_⟩) (by assumption) ?_
      rotate_left
      · (intro w hSw; try dsimp only at hSw); go_simp; try with_reducible rfl
      simp only [List.getElem_toArray, List.getElem_cons_zero, List.getElem_cons_succ, Act.put, List.setIfInBounds_toArray, List.set_cons_zero, List.set_cons_succ]
      skip
      refine wpAnyH_take (i := 11) (v := ?_) rfl (by kernel_rfl) (by kernel_rfl) (by kernel_rfl) (fun _ _ _ h => h) (Or.inl ⟨by rfl, ?_⟩) (by assumption) ?_
      rotate_left
      · (intro w hSw; try dsimp only at hSw); go_simp; try with_reducible rfl
      simp only [List.getElem_toArray, List.getElem_cons_zero, List.getElem_cons_succ, Act.put, List.setIfInBounds_toArray, List.set_cons_zero, List.set_cons_succ]
      skip
      refine wpAnyH_take (i := 12) (v := ?_) rfl (by kernel_rfl) (by kernel_rfl) (by kernel_rfl) (fun _ _ _ h => h) (Or.inl ⟨by rfl, ?_⟩) (by assumption) ?_
      rotate_left
      · (intro w hSw; try dsimp only at hSw); go_simp; try with_reducible rfl
      simp only [List.getElem_toArray, List.getElem_cons_zero, List.getElem_cons_succ, Act.put, List.setIfInBounds_toArray, List.set_cons_zero, List.set_cons_succ]
      skip
      refine wpAnyH_take (i := 13) (v := ?_) rfl (by kernel_rfl) (by kernel_rfl) (by kernel_rfl) (fun _ _ _ h => h) (Or.inl ⟨by rfl, ?_⟩) (by assumption) ?_
      rotate_left
      · (intro w hSw; try dsimp only at hSw); go_simp; try with_reducible rfl
      simp only [List.getElem_toArray, List.getElem_cons_zero, List.getElem_cons_succ, Act.put, List.setIfInBounds_toArray, List.set_cons_zero, List.set_cons_succ]
      skip
      refine wpAnyH_take (i := 14) (v := ?_) rfl (by kernel_rfl) (by kernel_rfl) (by kernel_rfl) (fun _ _ _ h => h) (Or.inl ⟨by rfl, ?_⟩) (by assumption) ?_
      rotate_left
      · (intro w hSw; try dsimp only at hSw); go_simp; try with_reducible rfl
      simp only [List.getElem_toArray, List.getElem_cons_zero, List.getElem_cons_succ, Act.put, List.setIfInBounds_toArray, List.set_cons_zero, List.set_cons_succ]
      skip
      refine wpAnyH_take (i := 15) (v := ?_) rfl (by kernel_rfl) (by kernel_rfl) (by kernel_rfl) (fun _ _ _ h => h) (Or.inl ⟨by rfl, ?_⟩) (by assumption) ?_
      rotate_left
      · (intro w hSw; try dsimp only at hSw); go_simp; try with_reducible rfl
      simp only [List.getElem_toArray, List.getElem_cons_zero, List.getElem_cons_succ, Act.put, List.setIfInBounds_toArray, List.set_cons_zero, List.set_cons_succ]
      skip
      refine wpAnyH_take (i := 16) (v := ?_) rfl (by kernel_rfl) (by kernel_rfl) (by kernel_rfl) (fun _ _ _ h => h) (Or.inl ⟨by rfl, ?_⟩) (by assumption) ?_
      rotate_left
      · (intro w hSw; try dsimp only at hSw); go_simp; try with_reducible rfl
      simp only [List.getElem_toArray, List.getElem_cons_zero, List.getElem_cons_succ, Act.put, List.setIfInBounds_toArray, List.set_cons_zero, List.set_cons_succ]
      skip
      refine wpAnyH_take (i := 17) (v := ?_) rfl (by kernel_rfl) (by kernel_rfl) (by kernel_rfl) (fun _ _ _ h => h) (Or.inl ⟨by rfl, ?_⟩) (by assumption) ?_
      rotate_left
      · (intro w hSw; try dsimp only at hSw); go_simp; try with_reducible rfl
      simp only [List.getElem_toArray, List.getElem_cons_zero, List.getElem_cons_succ, Act.put, List.setIfInBounds_toArray, List.set_cons_zero, List.set_cons_succ]
      skip
      refine wpAnyH_take (i := 18) (v := ?_) rfl (by kernel_rfl) (by kernel_rfl) (by kernel_rfl) (fun _ _ _ h => h) (Or.inl ⟨by rfl, ?_⟩) (by assumption) ?_
      rotate_left
      · (intro w hSw; try dsimp only at hSw); go_simp; try with_reducible rfl
      simp only [List.getElem_toArray, List.getElem_cons_zero, List.getElem_cons_succ, Act.put, List.setIfInBounds_toArray, List.set_cons_zero, List.set_cons_succ]
      refine wpAnyH_ready (rs := [19]) (by kernel_rfl) (by simp) ?_
      refine AllReadyH.cons rfl (fun K' hK => ?_) AllReadyH.nil
      go_simp
      obtain ⟨w8, hw8⟩ : ∃ w8, w8 = (wr.alloc (.cells #[.bool BJ] 4)).drew := ⟨_, rfl⟩
      have hE8 : Ext wr w8 := by rw [hw8]; exact (Ext.alloc _ _).trans (Ext.drew _)
      have hR8 : Row w8 (some ⟨wr.heap.size, 0, none⟩) [.bool BJ] := by rw [hw8]; exact (Row.lit wr [.bool BJ] 4).ext (Ext.drew _)
      rw [← hw8]
      clear hw8
      refine hK.out _ _ (kept_of hE8) (fun _ => ?_)
      clear hK K'
      refine wpAnyH_law 20 (by kernel_rfl) rfl rfl (wp_app _ _ 22 rfl w3.heap.size 4 (.bool false) 1 1 Try.infoBool' rfl (by decide) Try.underlying22 _ rfl i (bools (exB k xs (ps.take i))) (own_extN HOWN.out hE8) (some ⟨wr.heap.size, 0, none⟩) 1 1 rfl [.bool BJ] hR8 rfl (fun e => by cases e) (by simp [Value.oneCell']) (by omega) (by omega) (by have := (HX.out.trans hE8).size; omega) ?_)
      intro s9 w9 hown9 hk9
      have hS9 : Kept w3.heap.size (.slice so i sc) wr w9 := (kept_of hE8).keep hk9
      refine ⟨hS9, ?_⟩
      simp only [Act.put, List.setIfInBounds_toArray]
      have HX9 : Hid (Ext w3 w9) := Below.trans (HX.out.trans hE8) (hk9.below (HX.out.trans hE8).size (fun q hq => by have := (HOWN.out.lt q hq).1; omega))
      have HOWN9 : Hid (w9.ownsRow w3.heap.size 4 1 s9 (i + 1) (bools (exB k xs (ps.take (i + 1))))) := by
        show World.ownsRow _ _ _ _ _ _ _
        rw [HESi.out, ← HZ.out, hBJ]
        unfold bools at hown9 ⊢
        rw [List.map_append]
        exact hown9
      skip
      refine wpAnyH_take (i := 21) (v := ?_) rfl (by kernel_rfl) (by kernel_rfl) (by kernel_rfl) (fun _ _ _ h => h) (Or.inl ⟨by rfl, ?_⟩) (by assumption) ?_
      rotate_left
      · (intro w hSw; try dsimp only at hSw); go_simp; try with_reducible rfl
      simp only [List.getElem_toArray, List.getElem_cons_zero, List.getElem_cons_succ, Act.put, List.setIfInBounds_toArray, List.set_cons_zero, List.set_cons_succ]
      refine wpAnyH_done (by kernel_rfl) ?_ _
      clear hown9 hk9 hE8 hR8 hcur hS9 b0 b1 b2 b3 b4
      go_wp2_with fail
      refine ⟨⟨i + 1, by omega, by rw [Int.natCast_succ], HOWN9, HX9⟩, by simp [intOf]; omega⟩
    · obtain rfl : i = 8 * K := by omega
      obtain ⟨so, sc, rfl, hso1, hso2, hso3, hso4⟩ := own_row HOWN.out
      have hel := HEL (8 * K) hlen
      have hw := (HWD so _ sc _ _ hel.out (by omega) hso4).out
      rw [← HEX.out] at hw
      have HW := Lib.hid hw
      clear hw hso4 hso3
      go_wp2_with fail
      refine HW.out.mono ?_
      rintro e wz ⟨zo, zc, rfl, hrz, hlz, hmz, hoz, hxz⟩
      have HXZ := Lib.hid hxz
      go_wp2_with fail
      go_ret2
      exact ⟨zo, zc, rfl, hrz, hlz, hmz, hoz, HXW.out.trans (HX.out.trans HXZ.out)⟩

set_option maxRecDepth 20000 in
set_option maxHeartbeats 1000000 in
theorem rextract_no (W H : Int) (ao : Option Addr) (n cap : Nat) (w : World) (hc : mcode W H n ≠ 0) :
    Calls Try.prog 33 #[.agg (matV W H ao n cap)] w (RetSl w ([], mcode W H n)) := by
  have HRV := fun (V : World) => Lib.hid (rversion20_no W H ao n cap V hc)
  have hc' : (mcode W H n != 0) = true := by simpa using hc
  unfold two at HRV
  unfold matV at *
  simp only at HRV
  clear hc
  generalize mcode W H n = C at HRV hc' ⊢
  go_enter Try.func33, Try.ntmps33
  go_wp2_with fail
  refine (HRV _).out.mono ?_
  rintro e w1 ⟨rfl, hx1⟩
  have HX1 := Lib.hid ((Ext.alloc w _).trans hx1)
  clear hx1
  go_wp2_with fail
  go_ret2
  exact RetSl.nil _ _ _ HX1.out

end Go.Proofs.Ytjkpdhcnklgfbaa
