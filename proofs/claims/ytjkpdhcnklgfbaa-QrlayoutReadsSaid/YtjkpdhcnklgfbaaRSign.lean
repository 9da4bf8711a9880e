/-
  The contract of the reference's Sign.
  Conditions: a matrix of a version's size; or one that is not.
-/
import Derived.Test.YtjkpdhcnklgfbaaForm
namespace Go.Lay
open Go.Bs
theorem pos_ne {k : Nat} {p q : Nat × Nat} (hp : p.1 < k) (hq : q.1 < k) (h : p.1 ≠ q.1 ∨ p.2 ≠ q.2) : posOf k p ≠ posOf k q := by
  intro e
  unfold posOf at e
  have h1 : (p.2 * k + p.1) % k = p.1 := by rw [Nat.add_comm, Nat.add_mul_mod_self_right, Nat.mod_eq_of_lt hp]
  have h2 : (q.2 * k + q.1) % k = q.1 := by rw [Nat.add_comm, Nat.add_mul_mod_self_right, Nat.mod_eq_of_lt hq]
  have h3 : (p.2 * k + p.1) / k = p.2 := by rw [Nat.add_comm, Nat.add_mul_div_right _ _ (by omega), Nat.div_eq_of_lt hp, Nat.zero_add]
  have h4 : (q.2 * k + q.1) / k = q.2 := by rw [Nat.add_comm, Nat.add_mul_div_right _ _ (by omega), Nat.div_eq_of_lt hq, Nat.zero_add]
  rw [e] at h1 h3
  omega
/-- No module is in both lists. -/
def Away (k : Nat) (ps qs : List (Nat × Nat)) : Prop := ∀ p ∈ ps, ∀ q ∈ qs, posOf k p ≠ posOf k q
theorem wrN_set (k : Nat) (ps : List (Nat × Nat)) (a : Int) (xs : List Bool) (z : Nat) (b : Bool) (h : ∀ p ∈ ps, posOf k p ≠ z) : ∀ i, wrN k ps a (xs.set z b) i = (wrN k ps a xs i).set z b
  | 0 => rfl
  | i + 1 => by
    cases hp : ps[i]? with
    | none =>
      show (match ps[i]? with | some p => (wrN k ps a (xs.set z b) i).set (posOf k p) (bitOf a i) | none => wrN k ps a (xs.set z b) i) = (match ps[i]? with | some p => (wrN k ps a xs i).set (posOf k p) (bitOf a i) | none => wrN k ps a xs i).set z b
      rw [hp]
      exact wrN_set k ps a xs z b h i
    | some p =>
      rw [wrN_succ hp, wrN_succ hp, wrN_set k ps a xs z b h i, List.set_comm _ _ (h p (List.mem_of_getElem? hp))]
theorem wrN_comm (k : Nat) (ps qs : List (Nat × Nat)) (a b : Int) (xs : List Bool) (i : Nat) (h : Away k ps qs) : ∀ j, wrN k ps a (wrN k qs b xs j) i = wrN k qs b (wrN k ps a xs i) j
  | 0 => rfl
  | j + 1 => by
    cases hq : qs[j]? with
    | none =>
      have e1 : ∀ ys : List Bool, wrN k qs b ys (j + 1) = wrN k qs b ys j := fun ys => by
        show (match qs[j]? with | some p => (wrN k qs b ys j).set (posOf k p) (bitOf b j) | none => wrN k qs b ys j) = _
        rw [hq]
      rw [e1, e1]
      exact wrN_comm k ps qs a b xs i h j
    | some q =>
      rw [wrN_succ hq, wrN_succ hq, wrN_set k ps a _ _ _ (fun p hp => h p hp q (List.mem_of_getElem? hq)), wrN_comm k ps qs a b xs i h j]
theorem away_fv (s c d : Nat) (hs : 45 ≤ s) : Away s (vrL s c 18) (fmL s d 15) := by
  intro p hp q hq
  have hp1 := vrL_in s c hs p hp
  have hq1 := fmL_in s d (by omega) q hq
  obtain ⟨i, hi, rfl⟩ := List.mem_map.1 hp
  obtain ⟨j, hj, rfl⟩ := List.mem_map.1 hq
  have := List.mem_range.1 hi
  have := List.mem_range.1 hj
  refine pos_ne hp1.1 hq1.1 ?_
  unfold vrAt fmAt
  repeat' split
  all_goals (simp; omega)
end Go.Lay
namespace Go.Proofs.Ytjkpdhcnklgfbaa
open Go.RowKit Go.Bs Go.Qrv Go.Lay Go.Bch

/-- What is written into the first copies' modules. -/
def rsC (n : Nat) (word vw : Int) (xs : List Bool) : Nat → List Bool
  | 0 => xs
  | c + 1 => if 7 ≤ n then wrN (sd n) (vrL (sd n) c 18) vw (wrN (sd n) (fmL (sd n) c 15) word (rsC n word vw xs c) 15) 18 else wrN (sd n) (fmL (sd n) c 15) word (rsC n word vw xs c) 15
theorem rsC_2 (n : Nat) (word : Int) (xs : List Bool) : rsC n word (verRes n).1 xs 2 = signN n word xs := by
  unfold signN sgV sgF
  by_cases h : 7 ≤ n
  · simp only [rsC, if_pos h]
    rw [wrN_comm (sd n) (vrL (sd n) 0 18) (fmL (sd n) 1 15) (verRes n).1 word _ 18 (away_fv _ _ _ (by unfold sd; omega)) 15]
  · simp only [rsC, if_neg h]
theorem rsC_len (n : Nat) (word vw : Int) (xs : List Bool) : ∀ c, (rsC n word vw xs c).length = xs.length
  | 0 => rfl
  | c + 1 => by
    unfold rsC
    split
    · rw [wrN_len, wrN_len, rsC_len n word vw xs c]
    · rw [wrN_len, rsC_len n word vw xs c]
theorem fmt_lv {l m : Int} (h : l < 1 ∨ 4 < l) : fmtRes l m = (0, 15) := by
  unfold fmtRes
  rw [if_neg (by omega), if_neg (by omega), if_neg (by omega), if_neg (by omega)]
theorem fmt_in {l : Int} (m : Int) (h1 : 1 ≤ l) (h2 : l ≤ 4) : ∃ b, fmtRes l m = fmtB b m := by
  have : l = 1 ∨ l = 2 ∨ l = 3 ∨ l = 4 := by omega
  rcases this with rfl | rfl | rfl | rfl
  · exact ⟨1, rfl⟩
  · exact ⟨0, rfl⟩
  · exact ⟨3, rfl⟩
  · exact ⟨2, rfl⟩
theorem fmt_mk {l m : Int} (h1 : 1 ≤ l) (h2 : l ≤ 4) (h : m < 0 ∨ 7 < m) : fmtRes l m = (0, 3) := by
  obtain ⟨b, hb⟩ := fmt_in m h1 h2
  rw [hb, fmtB_1 h]
theorem fmt_ok {l m : Int} (h1 : 1 ≤ l) (h2 : l ≤ 4) (h3 : 0 ≤ m) (h4 : m ≤ 7) : (fmtRes l m).2 = 0 := by
  obtain ⟨b, hb⟩ := fmt_in m h1 h2
  obtain ⟨q, rfl⟩ := Int.eq_ofNat_of_zero_le h3
  rw [hb, fmtB_2 (by omega)]


set_option maxRecDepth 20000 in
set_option maxHeartbeats 1000000 in
theorem rsign_no (W H : Int) (ao : Option Addr) (n cap : Nat) (l m : Int) (w : World) (hc : mcode W H n ≠ 0) :
    Calls Try.prog 18 #[.agg (matV W H ao n cap), .int .i64 l, .int .i64 m] w (RetMat 4 w ((0, 0, []), mcode W H n)) := by
  have HLO := fun (V : World) => Lib.hid (rversion20_no W H ao n cap V hc)
  have hc' : (mcode W H n != 0) = true := by simpa using hc
  unfold matV two at *
  simp only at HLO
  clear hc
  generalize mcode W H n = C at HLO hc' ⊢
  go_enter Try.func18, Try.ntmps18
  go_wp2_with fail
  refine (HLO _).out.mono ?_
  rintro e w1 ⟨rfl, hx1⟩
  have HX1 := Lib.hid (((Ext.alloc w _).trans (Ext.alloc _ _)).trans hx1)
  have HG := Lib.hid hx1.new
  rw [World.size_alloc] at HG
  clear hx1
  skip
  go_wp2_with ((with_reducible show wpList _ _ _ (⟨none, .store 24 _ _, _, _, _, _⟩ :: _) _ _); refine wpList_storeOwnK rfl 24 _ _ rfl (w.heap.size + 1) _ rfl rfl 24 _ HG.out (by kernel_rfl) (by kernel_rfl) (by kernel_rfl) w HX1.out (Nat.le_succ _) ?_; intro w3 HX3 HG3 HK3)
  refine bodyPost_ret (results_cellSlot rfl _ w3 (w.heap.size + 1) 24 _ (0, 0) _ rfl HG3.out Try.underlying24 rfl (by kernel_rfl)) rfl ?_
  exact RetMat.nil _ _ _ _ HX3



set_option maxRecDepth 20000 in
set_option maxHeartbeats 4000000 in
theorem rsign_ok (n : Nat) (h1 : 1 ≤ n) (h2 : n ≤ 40) (xs : List Bool) (ao : Option Addr) (cap : Nat) (l m : Int) (w : World) (hl : xs.length = sd n * sd n) (hn0 : ao = none → cap = 0) (hr : Row w ao (bools xs)) :
    Calls Try.prog 18 #[.agg (matV (sd n) (sd n) ao (sd n * sd n) cap), .int .i64 l, .int .i64 m] w (RetMat 4 w (sgRes n xs l m)) := by
  have hsb : 21 ≤ sd n ∧ sd n ≤ 177 := by unfold sd; omega
  have hQb : 441 ≤ sd n * sd n ∧ sd n * sd n ≤ 31329 := ⟨Nat.mul_le_mul hsb.1 hsb.1, Nat.mul_le_mul hsb.2 hsb.2⟩
  have HLO := fun (V : World) => Lib.hid (rversion20_ok n h1 h2 ao cap V)
  have HCL := fun (V : World) (h : Row V ao (bools xs)) => Lib.hid (rcopy_any (sd n) (sd n) ao (sd n * sd n) cap xs V hl h hn0 (by omega))
  have HR := Lib.hid hr
  unfold matV two at *
  simp only at HLO
  by_cases hlv : l < 1 ∨ 4 < l
  · rw [sgRes_2 (by rw [fmt_lv hlv]; decide), fmt_lv hlv]
    have hlv' : l < 1 ∨ (1 ≤ l ∧ 4 < l) := by omega
    generalize sd n * sd n = Q at *
    generalize sd n = k at *
    clear hlv HCL
    rcases hlv' with c1 | ⟨c1, c2⟩
    · skip
      go_enter Try.func18, Try.ntmps18
      go_wp2_with fail
      refine (HLO _).out.mono ?_
      rintro e w1 ⟨rfl, hx1⟩
      have HX1 := Lib.hid (((Ext.alloc w _).trans (Ext.alloc _ _)).trans hx1)
      have HG := Lib.hid hx1.new
      rw [World.size_alloc] at HG
      obtain ⟨z0, z1, z2⟩ := box3 ((Ext.alloc _ _).trans hx1)
      have HS1 : Hid (w.heap.size + 1 < w1.heap.size) := Nat.lt_of_lt_of_le (by rw [World.size_alloc, World.size_alloc]; exact Nat.lt_succ_self _) hx1.size
      clear hx1
      skip
      go_wp2_with ((with_reducible show wpList _ _ _ (⟨none, .store 24 _ _, _, _, _, _⟩ :: _) _ _); refine wpList_storeOwnK rfl 24 _ _ rfl (w.heap.size + 1) _ rfl rfl 24 _ HG.out (by kernel_rfl) (by kernel_rfl) (by kernel_rfl) w HX1.out (Nat.le_succ _) ?_; intro w3 HX3 HG3 HK3)
      refine bodyPost_ret (results_cellSlot rfl _ w3 (w.heap.size + 1) 24 _ (0, 0) _ rfl HG3.out Try.underlying24 rfl (by kernel_rfl)) rfl ?_
      exact RetMat.nil _ _ _ _ HX3
    · skip
      go_enter Try.func18, Try.ntmps18
      go_wp2_with fail
      refine (HLO _).out.mono ?_
      rintro e w1 ⟨rfl, hx1⟩
      have HX1 := Lib.hid (((Ext.alloc w _).trans (Ext.alloc _ _)).trans hx1)
      have HG := Lib.hid hx1.new
      rw [World.size_alloc] at HG
      obtain ⟨z0, z1, z2⟩ := box3 ((Ext.alloc _ _).trans hx1)
      have HS1 : Hid (w.heap.size + 1 < w1.heap.size) := Nat.lt_of_lt_of_le (by rw [World.size_alloc, World.size_alloc]; exact Nat.lt_succ_self _) hx1.size
      clear hx1
      skip
      go_wp2_with ((with_reducible show wpList _ _ _ (⟨none, .store 24 _ _, _, _, _, _⟩ :: _) _ _); refine wpList_storeOwnK rfl 24 _ _ rfl (w.heap.size + 1) _ rfl rfl 24 _ HG.out (by kernel_rfl) (by kernel_rfl) (by kernel_rfl) w HX1.out (Nat.le_succ _) ?_; intro w3 HX3 HG3 HK3)
      refine bodyPost_ret (results_cellSlot rfl _ w3 (w.heap.size + 1) 24 _ (0, 0) _ rfl HG3.out Try.underlying24 rfl (by kernel_rfl)) rfl ?_
      exact RetMat.nil _ _ _ _ HX3
  · have hl1 : 1 ≤ l ∧ l ≤ 4 := by omega
    clear hlv
    by_cases hmk : m < 0 ∨ 7 < m
    · rw [sgRes_2 (by rw [fmt_mk hl1.1 hl1.2 hmk]; decide), fmt_mk hl1.1 hl1.2 hmk]
      have hmk' : m < 0 ∨ (0 ≤ m ∧ 7 < m) := by omega
      generalize sd n * sd n = Q at *
      generalize sd n = k at *
      obtain ⟨c3, c4⟩ := hl1
      clear hmk HCL
      rcases hmk' with c1 | ⟨c1, c2⟩
      · skip
        go_enter Try.func18, Try.ntmps18
        go_wp2_with fail
        refine (HLO _).out.mono ?_
        rintro e w1 ⟨rfl, hx1⟩
        have HX1 := Lib.hid (((Ext.alloc w _).trans (Ext.alloc _ _)).trans hx1)
        have HG := Lib.hid hx1.new
        rw [World.size_alloc] at HG
        obtain ⟨z0, z1, z2⟩ := box3 ((Ext.alloc _ _).trans hx1)
        have HS1 : Hid (w.heap.size + 1 < w1.heap.size) := Nat.lt_of_lt_of_le (by rw [World.size_alloc, World.size_alloc]; exact Nat.lt_succ_self _) hx1.size
        clear hx1
        skip
        go_wp2_with ((with_reducible show wpList _ _ _ (⟨none, .store 24 _ _, _, _, _, _⟩ :: _) _ _); refine wpList_storeOwnK rfl 24 _ _ rfl (w.heap.size + 1) _ rfl rfl 24 _ HG.out (by kernel_rfl) (by kernel_rfl) (by kernel_rfl) w HX1.out (Nat.le_succ _) ?_; intro w3 HX3 HG3 HK3)
        refine bodyPost_ret (results_cellSlot rfl _ w3 (w.heap.size + 1) 24 _ (0, 0) _ rfl HG3.out Try.underlying24 rfl (by kernel_rfl)) rfl ?_
        exact RetMat.nil _ _ _ _ HX3
      · skip
        go_enter Try.func18, Try.ntmps18
        go_wp2_with fail
        refine (HLO _).out.mono ?_
        rintro e w1 ⟨rfl, hx1⟩
        have HX1 := Lib.hid (((Ext.alloc w _).trans (Ext.alloc _ _)).trans hx1)
        have HG := Lib.hid hx1.new
        rw [World.size_alloc] at HG
        obtain ⟨z0, z1, z2⟩ := box3 ((Ext.alloc _ _).trans hx1)
        have HS1 : Hid (w.heap.size + 1 < w1.heap.size) := Nat.lt_of_lt_of_le (by rw [World.size_alloc, World.size_alloc]; exact Nat.lt_succ_self _) hx1.size
        clear hx1
        skip
        go_wp2_with ((with_reducible show wpList _ _ _ (⟨none, .store 24 _ _, _, _, _, _⟩ :: _) _ _); refine wpList_storeOwnK rfl 24 _ _ rfl (w.heap.size + 1) _ rfl rfl 24 _ HG.out (by kernel_rfl) (by kernel_rfl) (by kernel_rfl) w HX1.out (Nat.le_succ _) ?_; intro w3 HX3 HG3 HK3)
        refine bodyPost_ret (results_cellSlot rfl _ w3 (w.heap.size + 1) 24 _ (0, 0) _ rfl HG3.out Try.underlying24 rfl (by kernel_rfl)) rfl ?_
        exact RetMat.nil _ _ _ _ HX3
    · have hf := fmt_ok hl1.1 hl1.2 (show 0 ≤ m by omega) (show m ≤ 7 by omega)
      rw [sgRes_1 hf, ← rsC_2]
      have HFM := fun (V : World) => Lib.hid (rformat_any l m V)
      have HVR := fun (V : World) => Lib.hid (rversion_any n V)
      have HFA := fun (c i : Nat) (V : World) (hc : c ≤ 1) (hi : i < 15) => Lib.hid (formatAt_any (sd n) c i V ⟨hsb.1, by omega⟩ hc hi)
      have HVA := fun (h7 : 7 ≤ n) (c i : Nat) (V : World) (hc : c ≤ 1) (hi : i < 18) => Lib.hid (versionAt_any (sd n) c i V ⟨by unfold sd; omega, by omega⟩ hc hi)
      have HFI := fun (c i : Nat) (hi : i < 15) => fmL_in (sd n) c hsb.1 (fmAt (sd n) c i) (List.mem_map.2 ⟨i, List.mem_range.2 hi, rfl⟩)
      have HVI := fun (h7 : 7 ≤ n) (c i : Nat) (hi : i < 18) => vrL_in (sd n) c (by unfold sd; omega) (vrAt (sd n) c i) (List.mem_map.2 ⟨i, List.mem_range.2 hi, rfl⟩)
      have HFG : ∀ (word : Int) (ys : List Bool) (c i : Nat) (hi : i < 15), Hid (wrN (sd n) (fmL (sd n) c 15) word ys (i + 1) = (wrN (sd n) (fmL (sd n) c 15) word ys i).set (posOf (sd n) (fmAt (sd n) c i)) (bitOf word i)) := fun word ys c i hi => wrN_succ (by simp [fmL, hi])
      have HVG : ∀ (word : Int) (ys : List Bool) (c i : Nat) (hi : i < 18), Hid (wrN (sd n) (vrL (sd n) c 18) word ys (i + 1) = (wrN (sd n) (vrL (sd n) c 18) word ys i).set (posOf (sd n) (vrAt (sd n) c i)) (bitOf word i)) := fun word ys c i hi => wrN_succ (by simp [vrL, hi])
      have HF0 : ∀ (word : Int) (ys : List Bool) (c : Nat), Hid (wrN (sd n) (fmL (sd n) c 15) word ys 0 = ys) := fun _ _ _ => rfl
      have HV0 : ∀ (word : Int) (ys : List Bool) (c : Nat), Hid (wrN (sd n) (vrL (sd n) c 18) word ys 0 = ys) := fun _ _ _ => rfl
      have HC0 : Hid (rsC n (fmtRes l m).1 (verRes n).1 xs 0 = xs) := rfl
      have HC1 : ∀ c, Hid (rsC n (fmtRes l m).1 (verRes n).1 xs (c + 1) = if 7 ≤ n then wrN (sd n) (vrL (sd n) c 18) (verRes n).1 (wrN (sd n) (fmL (sd n) c 15) (fmtRes l m).1 (rsC n (fmtRes l m).1 (verRes n).1 xs c) 15) 18 else wrN (sd n) (fmL (sd n) c 15) (fmtRes l m).1 (rsC n (fmtRes l m).1 (verRes n).1 xs c) 15) := fun c => rfl
      have HLW : ∀ (word : Int) (ps : List (Nat × Nat)) (ys : List Bool) (i : Nat), Hid ((wrN (sd n) ps word ys i).length = ys.length) := fun word ps ys i => wrN_len _ _ _ _ _
      have HLC : ∀ c, Hid ((rsC n (fmtRes l m).1 (verRes n).1 xs c).length = sd n * sd n) := fun c => (rsC_len _ _ _ _ _).trans hl
      have HPK : Hid (∀ (p : Nat × Nat), p.1 < sd n → p.2 < sd n → posOf (sd n) p < sd n * sd n) := fun p hp1 hp2 => by
        have e1 : (p.2 + 1) * sd n ≤ sd n * sd n := Nat.mul_le_mul_right _ hp2
        rw [Nat.add_mul] at e1
        unfold posOf
        omega
      have HPZ : ∀ (x y : Nat), Hid ((y : Int) * ((sd n : Nat) : Int) + (x : Int) = ((posOf (sd n) (x, y) : Nat) : Int)) := fun x y => by show _ = _; unfold posOf; rw [Int.natCast_add, Int.natCast_mul]
      unfold RetMat
      unfold OwnMat at HCL
      simp only
      rw [rsC_len, hl]
      rw [hl] at HCL
      unfold two at HFM HVR
      unfold RetPt at HFA HVA
      generalize rsC n (fmtRes l m).1 (verRes n).1 xs = RC at HC0 HC1 HLC ⊢
      generalize fmtRes l m = F at HFM HC1
      obtain ⟨word, f2⟩ := F
      generalize verRes n = VV at HVR HC1
      obtain ⟨vw, v2⟩ := VV
      simp only at HFM HVR HC1
      clear hf hr
      generalize sd n * sd n = Q at *
      generalize sd n = k at *
      obtain ⟨c3, c4⟩ := hl1
      have c5 : 0 ≤ m := by omega
      have c6 : m ≤ 7 := by omega
      clear hmk
      have hn40 : (n : Int) ≤ 40 := by omega
      have d1 : decide (l < 1) = false := decide_eq_false (by omega)
      have d2 : decide (4 < l) = false := decide_eq_false (by omega)
      have d3 : decide (m < 0) = false := decide_eq_false (by omega)
      have d4 : decide (7 < m) = false := decide_eq_false (by omega)
      skip
      go_enter Try.func18, Try.ntmps18
      go_wp2_with fail
      refine (HLO _).out.mono ?_
      rintro e w1 ⟨rfl, hx1⟩
      have HX1 := Lib.hid (((Ext.alloc w _).trans (Ext.alloc _ _)).trans hx1)
      have HG := Lib.hid hx1.new
      rw [World.size_alloc] at HG
      obtain ⟨z0, z1, z2⟩ := box3 ((Ext.alloc _ _).trans hx1)
      have HS1 : Hid (w.heap.size + 1 < w1.heap.size) := Nat.lt_of_lt_of_le (by rw [World.size_alloc, World.size_alloc]; exact Nat.lt_succ_self _) hx1.size
      clear HG
      have HGZ := Lib.hid hx1.new
      rw [World.size_alloc] at HGZ
      have HB1 := Lib.hid ((Ext.alloc _ _).trans hx1)
      clear hx1
      go_wp2_with fail
      refine (HCL _ (HR.out.ext HX1.out)).out.mono ?_
      rintro e w2 ⟨s, rfl, hown, hx2⟩
      obtain ⟨h, oc, rfl, hhb, hhl, hoc, hom⟩ := own_ptr hown (by omega)
      obtain ⟨W3, hW3⟩ : ∃ W3, W3 = w2.alloc (.cells #[.int .i64 k, .int .i64 k, .slice (some ⟨h, 0, none⟩) Q oc] 24) := ⟨_, rfl⟩
      have hx3 : Ext w2 W3 := by rw [hW3]; exact Ext.alloc _ _
      have hs3 : W3.heap.size = w2.heap.size + 1 := by rw [hW3, World.size_alloc]
      have HBX : Hid (∀ V, W3.grownBy V (some h) → V.cell? ⟨w.heap.size, 0, none⟩ = some (.int .i64 k) ∧ V.cell? ⟨w2.heap.size, 0, none⟩ = some (.int .i64 k) ∧ V.cell? ⟨w2.heap.size, 1, none⟩ = some (.int .i64 k) ∧ V.cell? ⟨w2.heap.size, 2, none⟩ = some (.slice (some ⟨h, 0, none⟩) Q oc)) := by
        intro V hv
        have hlt := HS1.out
        have hne : w.heap.size ≠ h := by omega
        have hne2 : w2.heap.size ≠ h := by omega
        have e1 := box3 (HB1.out.trans (hx2.trans hx3))
        have e2 := box3 (Ext.refl (w2.alloc (.cells #[.int .i64 k, .int .i64 k, .slice (some ⟨h, 0, none⟩) Q oc] 24)))
        rw [← hW3] at e2
        exact ⟨grown_cell hv e1.1 hne, grown_cell hv e2.1 hne2, grown_cell hv e2.2.1 hne2, grown_cell hv e2.2.2 hne2⟩
      have HXW3 : Hid (Ext w W3) := HX1.out.trans (hx2.trans hx3)
      have HZR : Hid (∀ V, W3.grownBy V (some h) → V.heap[w.heap.size + 1]? = some (.cells #[.int .i64 0, .int .i64 0, .slice none 0 0] 24 (0, 0))) := by
        intro V hv
        have hlt := HS1.out
        have h0 := (hx2.trans hx3).old HGZ.out
        exact (hv.block _ (Array.getElem?_eq_some_iff.1 h0).1 (fun e => by have := Option.some.inj e; omega)).trans h0
      have HHB : Hid (w.heap.size ≤ h ∧ h < W3.heap.size) := by have hlt := HS1.out; exact ⟨by omega, by omega⟩
      have HHR : Hid ((Value.slice (some ⟨h, 0, none⟩) Q oc).ownBlock ≠ some (w.heap.size + 1)) := fun e => by have hlt := HS1.out; simp [Value.ownBlock] at e; omega
      have HBB : Hid (w.heap.size ≤ w1.heap.size) := by have hlt := HS1.out; show _ ≤ _; omega
      have HO3 := Lib.hid (own_extN hown hx3)
      have HW3 := Lib.hid hW3
      have HOC : Hid (Q ≤ oc ∧ oc ≤ 9223372036854775807) := ⟨hoc, hom⟩
      clear hW3 hs3 hhb hhl hoc hom hx3 hx2 hown z0 z1 z2
      go_wp2_with fail
      rw [← HW3.out]
      refine (HFM _).out.mono ?_
      rintro e w4 ⟨rfl, rfl⟩
      go_wp2_with fail
      refine (HVR _).out.mono ?_
      rintro e w4 ⟨rfl, rfl⟩
      go_wp2_with fail
      go_loopw [15, 16, 17, 18, 19] (fun cc _ _ _ _ wr => ∃ c : Nat, c ≤ 2 ∧ cc = .int .i64 c ∧ Hid (wr.ownsRow w1.heap.size 4 1 (.slice (some ⟨h, 0, none⟩) Q oc) Q (bools (RC c))) ∧ Hid (W3.grownBy wr (some h))) (fun cc _ _ _ _ _ => 2 - (intOf cc).toNat)
      case atStart => exact ⟨0, by omega, rfl, by rw [HC0.out]; exact HO3, World.grownBy.refl _ _⟩
      case round =>
        obtain ⟨c, hc, rfl, HO, HG⟩ := hrel
        by_cases hltc : c < 2
        · have dc : decide ((c : Int) < 2) = true := decide_eq_true (by omega)
          have HFIc := fun (i : Nat) (hi : i < 15) => Lib.hid (HFI c i hi)
          have HFAc := fun (i : Nat) (V : World) (hi : i < 15) => HFA c i V (by omega) hi
          have HO0 : Hid (wr.ownsRow w1.heap.size 4 1 (.slice (some ⟨h, 0, none⟩) Q oc) Q (bools (wrN k (fmL k c 15) word (RC c) 0))) := by rw [(HF0 word (RC c) c).out]; exact HO
          have HG0 := HG
          obtain ⟨l0, g0, g1, g2⟩ := HBX.out wr HG.out
          go_wp2_with fail
          go_loopw [16, 17] (fun ii _ wr => ∃ i : Nat, i ≤ 15 ∧ ii = .int .i64 i ∧ Hid (wr.ownsRow w1.heap.size 4 1 (.slice (some ⟨h, 0, none⟩) Q oc) Q (bools (wrN k (fmL k c 15) word (RC c) i))) ∧ Hid (W3.grownBy wr (some h))) (fun ii _ _ => 15 - (intOf ii).toNat)
          case atStart => exact ⟨0, by omega, rfl, HO0, HG0⟩
          case round =>
            clear HO0 HG0 HO HG l0 g0 g1 g2
            obtain ⟨i, hi, rfl, HO, HG⟩ := hrel
            obtain ⟨l0, g0, g1, g2⟩ := HBX.out wr HG.out
            by_cases hlti : i < 15
            · have hin := (HFIc i hlti).out
              have HST := HFG word (RC c) c i hlti
              have HAT := fun (V : World) => HFAc i V hlti
              have HLN : Hid ((bools (wrN k (fmL k c 15) word (RC c) i)).length = Q) := by show _ = _; rw [length_bools, (HLW _ _ _ _).out, (HLC c).out]
              generalize fmAt k c i = p at hin HST HAT
              skip
              obtain ⟨x, y⟩ := p
              simp only at hin HAT HST
              obtain ⟨zi, hzi⟩ : ∃ zi, zi = posOf k (x, y) := ⟨_, rfl⟩
              have hzQ : zi < Q := by rw [hzi]; exact HPK.out (x, y) hin.1 hin.2
              have hzz := (HPZ x y).out
              rw [← hzi] at HST hzz
              clear hzi
              obtain ⟨ys, hys⟩ : ∃ ys : Nat, (y : Int) * (k : Int) = (ys : Int) := ⟨y * k, (Int.natCast_mul y k).symm⟩
              rw [hys] at hzz
              have hyw : wrap64 ((y : Int) * (k : Int)) = (ys : Int) := by rw [hys]; exact IntWalk.wrap64_in _ ⟨by omega, by omega⟩
              have HYW := Lib.hid hyw
              have HZZ := Lib.hid hzz
              have hzI : (zi : Int) < (Q : Int) := by omega
              clear hys hyw hzz
              go_wp2_with fail
              refine (HAT _).out.mono ?_
              rintro e w5 ⟨rfl, hx5⟩
              have hG5 := grown_trans HG.out (grown_ext hx5 (some h))
              have hO5 := own_extN HO.out hx5
              obtain ⟨m0, n0, n1, n2⟩ := HBX.out w5 hG5
              obtain ⟨y2, y3⟩ := own_cell hO5 zi _ (List.getElem?_eq_getElem (show zi < _ by rw [HLN.out]; exact hzQ))
              have hs1 : w2.heap.size < w5.heap.size := World.block_lt_of_cell? w5 ⟨w2.heap.size, 0, none⟩ n0
              have hs2 : w.heap.size < w5.heap.size := World.block_lt_of_cell? w5 ⟨w.heap.size, 0, none⟩ m0
              have hs3 : h < w5.heap.size := World.block_lt_of_cell? w5 ⟨h, zi, none⟩ y2
              have HG5 := Lib.hid hG5
              have HO5 := Lib.hid hO5
              have hyw := HYW.out
              have hzz := HZZ.out
              clear hx5 hG5 hO5 l0 g0 g1 g2
              go_wp2_with fail
              rw [bit_eq]
              have HO6 : Hid (((w5.setCell ⟨h, zi, none⟩ (.bool (bitOf word i))).alloc (.cells #[.int .i64 x, .int .i64 y] 45)).ownsRow w1.heap.size 4 1 (.slice (some ⟨h, 0, none⟩) Q oc) Q (bools (wrN k (fmL k c 15) word (RC c) (i + 1)))) := by
                have := own_set HO5.out zi (.bool (bitOf word i))
                rw [← bools_set] at this
                show World.ownsRow _ _ _ _ _ _ _
                rw [HST.out]
                exact own_extN this (Ext.alloc _ _)
              have HG6 := Lib.hid (grown_trans (grown_trans HG5.out (grown_set w5 h zi (.bool (bitOf word i)))) (grown_ext (Ext.alloc (w5.setCell ⟨h, zi, none⟩ (.bool (bitOf word i))) (.cells #[.int .i64 x, .int .i64 y] 45)) _))
              exact ⟨⟨i + 1, by omega, by rw [Int.natCast_succ], HO6, HG6⟩, by simp [intOf]; omega⟩
            · obtain rfl : i = 15 := by omega
              rw [show ((15 : Nat) : Int) = 15 from rfl]
              by_cases h7 : 7 ≤ n
              · have n7 : (7 : Int) ≤ n := by omega
                have HCc := HC1 c
                rw [if_pos h7] at HCc
                have HVIc := fun (i : Nat) (hi : i < 18) => Lib.hid (HVI h7 c i hi)
                have HVAc := fun (i : Nat) (V : World) (hi : i < 18) => HVA h7 c i V (by omega) hi
                have HO0 : Hid (wr.ownsRow w1.heap.size 4 1 (.slice (some ⟨h, 0, none⟩) Q oc) Q (bools (wrN k (vrL k c 18) vw (wrN k (fmL k c 15) word (RC c) 15) 0))) := by rw [(HV0 vw _ c).out]; exact HO
                have HG0 := HG
                clear h7
                go_wp2_with fail
                go_loopw [18, 19] (fun ii _ wr => ∃ i : Nat, i ≤ 18 ∧ ii = .int .i64 i ∧ Hid (wr.ownsRow w1.heap.size 4 1 (.slice (some ⟨h, 0, none⟩) Q oc) Q (bools (wrN k (vrL k c 18) vw (wrN k (fmL k c 15) word (RC c) 15) i))) ∧ Hid (W3.grownBy wr (some h))) (fun ii _ _ => 18 - (intOf ii).toNat)
                case atStart => exact ⟨0, by omega, rfl, HO0, HG0⟩
                case round =>
                  clear HO0 HG0 HO HG l0 g0 g1 g2
                  obtain ⟨i, hi, rfl, HO, HG⟩ := hrel
                  obtain ⟨l0, g0, g1, g2⟩ := HBX.out wr HG.out
                  by_cases hlti : i < 18
                  · have hin := (HVIc i hlti).out
                    have HST := HVG vw (wrN k (fmL k c 15) word (RC c) 15) c i hlti
                    have HAT := fun (V : World) => HVAc i V hlti
                    have HLN : Hid ((bools (wrN k (vrL k c 18) vw (wrN k (fmL k c 15) word (RC c) 15) i)).length = Q) := by show _ = _; rw [length_bools, (HLW _ _ _ _).out, (HLW _ _ _ _).out, (HLC c).out]
                    generalize vrAt k c i = p at hin HST HAT
                    skip
                    obtain ⟨x, y⟩ := p
                    simp only at hin HAT HST
                    obtain ⟨zi, hzi⟩ : ∃ zi, zi = posOf k (x, y) := ⟨_, rfl⟩
                    have hzQ : zi < Q := by rw [hzi]; exact HPK.out (x, y) hin.1 hin.2
                    have hzz := (HPZ x y).out
                    rw [← hzi] at HST hzz
                    clear hzi
                    obtain ⟨ys, hys⟩ : ∃ ys : Nat, (y : Int) * (k : Int) = (ys : Int) := ⟨y * k, (Int.natCast_mul y k).symm⟩
                    rw [hys] at hzz
                    have hyw : wrap64 ((y : Int) * (k : Int)) = (ys : Int) := by rw [hys]; exact IntWalk.wrap64_in _ ⟨by omega, by omega⟩
                    have HYW := Lib.hid hyw
                    have HZZ := Lib.hid hzz
                    have hzI : (zi : Int) < (Q : Int) := by omega
                    clear hys hyw hzz
                    go_wp2_with fail
                    refine (HAT _).out.mono ?_
                    rintro e w5 ⟨rfl, hx5⟩
                    have hG5 := grown_trans HG.out (grown_ext hx5 (some h))
                    have hO5 := own_extN HO.out hx5
                    obtain ⟨m0, n0, n1, n2⟩ := HBX.out w5 hG5
                    obtain ⟨y2, y3⟩ := own_cell hO5 zi _ (List.getElem?_eq_getElem (show zi < _ by rw [HLN.out]; exact hzQ))
                    have hs1 : w2.heap.size < w5.heap.size := World.block_lt_of_cell? w5 ⟨w2.heap.size, 0, none⟩ n0
                    have hs2 : w.heap.size < w5.heap.size := World.block_lt_of_cell? w5 ⟨w.heap.size, 0, none⟩ m0
                    have hs3 : h < w5.heap.size := World.block_lt_of_cell? w5 ⟨h, zi, none⟩ y2
                    have HG5 := Lib.hid hG5
                    have HO5 := Lib.hid hO5
                    have hyw := HYW.out
                    have hzz := HZZ.out
                    clear hx5 hG5 hO5 l0 g0 g1 g2
                    go_wp2_with fail
                    rw [bit_eq]
                    have HO6 : Hid (((w5.setCell ⟨h, zi, none⟩ (.bool (bitOf vw i))).alloc (.cells #[.int .i64 x, .int .i64 y] 45)).ownsRow w1.heap.size 4 1 (.slice (some ⟨h, 0, none⟩) Q oc) Q (bools (wrN k (vrL k c 18) vw (wrN k (fmL k c 15) word (RC c) 15) (i + 1)))) := by
                      have := own_set HO5.out zi (.bool (bitOf vw i))
                      rw [← bools_set] at this
                      show World.ownsRow _ _ _ _ _ _ _
                      rw [HST.out]
                      exact own_extN this (Ext.alloc _ _)
                    have HG6 := Lib.hid (grown_trans (grown_trans HG5.out (grown_set w5 h zi (.bool (bitOf vw i)))) (grown_ext (Ext.alloc (w5.setCell ⟨h, zi, none⟩ (.bool (bitOf vw i))) (.cells #[.int .i64 x, .int .i64 y] 45)) _))
                    exact ⟨⟨i + 1, by omega, by rw [Int.natCast_succ], HO6, HG6⟩, by simp [intOf]; omega⟩
                  · obtain rfl : i = 18 := by omega
                    have HOn : Hid (wr.ownsRow w1.heap.size 4 1 (.slice (some ⟨h, 0, none⟩) Q oc) Q (bools (RC (c + 1)))) := by rw [HCc.out]; exact HO
                    go_wp2_with fail
                    exact ⟨⟨c + 1, by omega, by rw [Int.natCast_succ], HOn, HG⟩, by simp [intOf]; omega⟩
              · have n7 : (n : Int) < 7 := by omega
                have HCc := HC1 c
                rw [if_neg h7] at HCc
                have HO0 : Hid (wr.ownsRow w1.heap.size 4 1 (.slice (some ⟨h, 0, none⟩) Q oc) Q (bools (RC (c + 1)))) := by rw [HCc.out]; exact HO
                clear h7
                go_wp2_with fail
                go_loopw [18, 19] (fun ii _ wx => ii = .int .i64 0 ∧ wx = wr) (fun _ _ _ => 0)
                case atStart => exact ⟨rfl, rfl⟩
                case round =>
                  obtain ⟨rfl, rfl⟩ := hrel
                  go_wp2_with fail
                  exact ⟨⟨c + 1, by omega, by rw [Int.natCast_succ], HO0, HG⟩, by simp [intOf]; omega⟩
        · obtain rfl : c = 2 := by omega
          obtain ⟨l0, g0, g1, g2⟩ := HBX.out wr HG.out
          go_wp2_with ((with_reducible show wpList _ _ _ (⟨none, .store 24 _ _, _, _, _, _⟩ :: _) _ _); refine wpList_storeOwnK rfl 24 _ _ rfl (w.heap.size + 1) _ rfl rfl 24 _ (HZR.out _ HG.out) (by kernel_rfl) (by kernel_rfl) (by kernel_rfl) w (ext_grown HXW3.out HG.out HHB.out.1) (Nat.le_succ _) ?_; intro wz HXz HGz HKz)
          refine bodyPost_ret (results_cellSlot rfl _ wz (w.heap.size + 1) 24 _ (0, 0) _ rfl HGz.out Try.underlying24 rfl (by kernel_rfl)) rfl ?_
          exact ⟨_, rfl, own_base (own_off HO.out HKz.out HHR.out) HBB.out, HXz⟩

end Go.Proofs.Ytjkpdhcnklgfbaa
