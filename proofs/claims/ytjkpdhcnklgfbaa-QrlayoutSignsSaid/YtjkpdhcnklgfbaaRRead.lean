/-
  The contracts of the reference's information, agrees and Read.
  Conditions: a matrix of a version's size; or one that is not.
-/
import Derived.Test.YtjkpdhcnklgfbaaForm
namespace Go.Lay
open Go.Bs
def bAt (k : Nat) (ps : List (Nat × Nat)) (xs : List Bool) (i : Nat) : Nat := match ps[i]? with | some p => if xs.getD (posOf k p) false = true then 1 else 0 | none => 0
/-- The number that the d upper ones of n modules hold. -/
def hiD (k : Nat) (ps : List (Nat × Nat)) (xs : List Bool) (n : Nat) : Nat → Nat
  | 0 => 0
  | d + 1 => 2 * hiD k ps xs n d + bAt k ps xs (n - 1 - d)
theorem rdN_bit (k : Nat) (ps : List (Nat × Nat)) (xs : List Bool) (i : Nat) : rdN k ps xs (i + 1) = rdN k ps xs i + bAt k ps xs i * 2 ^ i := by
  show rdN k ps xs i + (match ps[i]? with | some p => if xs.getD (posOf k p) false = true then 2 ^ i else 0 | none => 0) = _
  unfold bAt
  cases ps[i]? with
  | none => simp
  | some p =>
    simp only
    split <;> simp
theorem hiD_sum (k : Nat) (ps : List (Nat × Nat)) (xs : List Bool) (n : Nat) : ∀ d, d ≤ n → rdN k ps xs (n - d) + 2 ^ (n - d) * hiD k ps xs n d = rdN k ps xs n
  | 0, _ => by simp [hiD]
  | d + 1, h => by
    have ih := hiD_sum k ps xs n d (by omega)
    obtain ⟨i, hi⟩ : ∃ i, n = i + (d + 1) := ⟨n - (d + 1), by omega⟩
    have e1 : n - d = i + 1 := by omega
    have e2 : n - (d + 1) = i := by omega
    have e3 : n - 1 - d = i := by omega
    rw [e1, rdN_bit, Nat.pow_succ] at ih
    rw [e2]
    unfold hiD
    rw [e3, ← ih, Nat.mul_add, Nat.mul_comm (bAt k ps xs i) (2 ^ i), Nat.mul_assoc]
    generalize 2 ^ i * (2 * hiD k ps xs n d) = A
    generalize 2 ^ i * bAt k ps xs i = B
    omega
theorem hiD_all (k : Nat) (ps : List (Nat × Nat)) (xs : List Bool) (n : Nat) : hiD k ps xs n n = rdN k ps xs n := by
  have := hiD_sum k ps xs n n (Nat.le_refl _)
  simpa [rdN] using this
theorem hiD_lt (k : Nat) (ps : List (Nat × Nat)) (xs : List Bool) (n : Nat) : ∀ d, hiD k ps xs n d < 2 ^ d
  | 0 => Nat.one_pos
  | d + 1 => by
    have := hiD_lt k ps xs n d
    have hb : bAt k ps xs (n - 1 - d) ≤ 1 := by unfold bAt; split; split <;> omega; omega
    unfold hiD
    rw [Nat.pow_succ]
    omega
end Go.Lay
namespace Go.Proofs.Ytjkpdhcnklgfbaa
open Go.RowKit Go.Bs Go.Qrv Go.Lay Go.Bch

theorem bAt_eq {k : Nat} {ps : List (Nat × Nat)} {xs : List Bool} {i : Nat} {p : Nat × Nat} (h : ps[i]? = some p) : bAt k ps xs i = if xs.getD (posOf k p) false = true then 1 else 0 := by
  unfold bAt
  rw [h]




theorem cells2' {w : World} {g : Nat} {c0 c1 : Value} {t : TypeId} {fr : Nat × Nat} (h : w.heap[g]? = some (.cells #[c0, c1] t fr)) : w.cell? ⟨g, 0, none⟩ = some c0 ∧ w.cell? ⟨g, 1, none⟩ = some c1 :=
  ⟨by rw [cell_of_row _ _ _ _ _ _ h]; rfl, by rw [cell_of_row _ _ _ _ _ _ h]; rfl⟩

set_option maxRecDepth 20000 in
set_option maxHeartbeats 2000000 in
theorem information_f (k copy : Nat) (H : Int) (mo : Option Addr) (Q cap : Nat) (xs : List Bool) (w : World) (hc : copy ≤ 1)
    (hk : 21 ≤ k ∧ k ≤ 177) (hQ : k * k = Q) (hxl : xs.length = Q) (hr : Row w mo (bools xs)) :
    Calls Try.prog 56 #[.agg (matV k H mo Q cap), .int .i64 copy, .int .i64 15] w fun e w' => e = .returned (.int .i64 (rdN k (fmL k copy 15) xs 15)) ∧ Ext w w' := by
  have HFA := fun (i : Nat) (V : World) (hi : i < 15) => Lib.hid (formatAt_any k copy i V ⟨hk.1, by omega⟩ hc hi)
  have HFI := fun (i : Nat) (hi : i < 15) => fmL_in k copy hk.1 (fmAt k copy i) (List.mem_map.2 ⟨i, List.mem_range.2 hi, rfl⟩)
  have HHS : ∀ (d : Nat) (hd : 14 - d < 15), Hid (hiD k (fmL k copy 15) xs 15 (d + 1) = 2 * hiD k (fmL k copy 15) xs 15 d + if xs.getD (posOf k (fmAt k copy (14 - d))) false = true then 1 else 0) := fun d hd => by
    show _ = _
    rw [show hiD k (fmL k copy 15) xs 15 (d + 1) = 2 * hiD k (fmL k copy 15) xs 15 d + bAt k (fmL k copy 15) xs (14 - d) from rfl, bAt_eq (p := fmAt k copy (14 - d)) (by simp [fmL, hd])]
  have HHL := fun d => Lib.hid (hiD_lt k (fmL k copy 15) xs 15 d)
  have HH0 : Hid (hiD k (fmL k copy 15) xs 15 0 = 0) := rfl
  rw [← hiD_all]
  unfold RetPt at HFA
  generalize hiD k (fmL k copy 15) xs 15 = HI at HHS HHL HH0 ⊢
  skip
  have HXT := fun (i : Nat) (hi : i < Q) => Lib.hid (bools_get xs i (by omega))
  have HR := Lib.hid hr
  have HPK : Hid (∀ (p : Nat × Nat), p.1 < k → p.2 < k → posOf k p < Q) := fun p hp1 hp2 => by
    have e1 : (p.2 + 1) * k ≤ k * k := Nat.mul_le_mul_right _ hp2
    rw [Nat.add_mul] at e1
    unfold posOf
    omega
  have HPZ : ∀ (x y : Nat), Hid ((y : Int) * (k : Int) + (x : Int) = ((posOf k (x, y) : Nat) : Int)) := fun x y => by show _ = _; unfold posOf; rw [Int.natCast_add, Int.natCast_mul]
  have hQb : Q ≤ 31329 := by rw [← hQ]; exact Nat.mul_le_mul hk.2 hk.2
  clear hr hxl hQ
  obtain ⟨W1, hW1⟩ : ∃ W1, W1 = w.alloc (.cells #[.int .i64 k, .int .i64 H, .slice mo Q cap] 24) := ⟨_, rfl⟩
  have HX1 : Hid (Ext w W1) := by rw [hW1]; exact Ext.alloc _ _
  have HBX : Hid (∀ V, Ext W1 V → V.cell? ⟨w.heap.size, 0, none⟩ = some (.int .i64 k) ∧ V.cell? ⟨w.heap.size, 1, none⟩ = some (.int .i64 H) ∧ V.cell? ⟨w.heap.size, 2, none⟩ = some (.slice mo Q cap)) := by
    intro V hv
    rw [hW1] at hv
    exact box3 hv
  have HW1 := Lib.hid hW1
  clear hW1
  unfold matV
  go_enter Try.func56, Try.ntmps56
  go_wp2_with fail
  rw [← HW1.out]
  go_loopw [7, 8, 9] (fun vv ii _ wr => ∃ d : Nat, d ≤ 15 ∧ ii = .int .i64 (14 - (d : Int)) ∧ vv = .int .i64 (HI d) ∧ Hid (Ext W1 wr)) (fun _ ii _ _ => (intOf ii + 1).toNat)
  case atStart => exact ⟨0, by omega, by rfl, by rw [HH0.out]; rfl, Ext.refl _⟩
  case round =>
    obtain ⟨d, hd, rfl, rfl, HX⟩ := hrel
    obtain ⟨z0, z1, z2⟩ := HBX.out wr HX.out
    by_cases hlt : d < 15
    · obtain ⟨i, hi⟩ : ∃ i, i = 14 - d := ⟨_, rfl⟩
      have hiI : 14 - (d : Int) = (i : Int) := by omega
      have hi15 : i < 15 := by omega
      have HST := HHS d (by omega)
      rw [← hi] at HST
      have hin := HFI i hi15
      have HAT := fun (V : World) => HFA i V hi15
      have hhl := (HHL d).out
      have hpw : 2 ^ d ≤ 2 ^ 15 := Nat.pow_le_pow_right (by decide) hd
      have hpw2 : (2 : Nat) ^ 15 = 32768 := by decide
      rw [hpw2] at hpw
      generalize 2 ^ d = PW at hhl hpw
      generalize fmAt k copy i = p at hin HST HAT
      generalize HI d = HD at hhl HST ⊢
      rw [hiI]
      have hmod : (i : Int) % 15 = (i : Int) := by omega
      have HII := Lib.hid hiI
      clear hi hiI hpw2
      skip
      obtain ⟨x, y⟩ := p
      simp only at hin HST HAT
      obtain ⟨zi, hzi⟩ : ∃ zi, zi = posOf k (x, y) := ⟨_, rfl⟩
      have hzQ : zi < Q := by rw [hzi]; exact HPK.out (x, y) hin.1 hin.2
      have hzz := (HPZ x y).out
      rw [← hzi] at HST hzz
      clear hzi
      obtain ⟨ys, hys⟩ : ∃ ys : Nat, (y : Int) * (k : Int) = (ys : Int) := ⟨y * k, (Int.natCast_mul y k).symm⟩
      rw [hys] at hzz
      have hyw : wrap64 ((y : Int) * (k : Int)) = (ys : Int) := by rw [hys]; exact IntWalk.wrap64_in _ ⟨by omega, by omega⟩
      have HYW := Lib.hid hyw
      have HZZ := Lib.hid hzz
      have hzI : (zi : Int) < (Q : Int) := by omega
      have HC := HXT zi hzQ
      clear hys hyw hzz
      generalize xs.getD zi false = XV at HC HST
      go_wp2_with fail
      refine (HAT _).out.mono ?_
      rintro e w5 ⟨rfl, hx5⟩
      have hX5 := HX.out.trans hx5
      obtain ⟨m0, m1, m2⟩ := HBX.out w5 hX5
      obtain ⟨am, rfl, hcm⟩ := (HR.out.ext (HX1.out.trans hX5)).at HC.out
      have hs2 : w.heap.size < w5.heap.size := World.block_lt_of_cell? w5 ⟨w.heap.size, 0, none⟩ m0
      have hs3 : (am.add zi).block < w5.heap.size := World.block_lt_of_cell? w5 _ hcm
      have HX6 := Lib.hid (hX5.trans (Ext.alloc w5 (.cells #[.int .i64 x, .int .i64 y] 45)))
      have hyw := HYW.out
      have hzz := HZZ.out
      clear hx5 hX5 z0 z1 z2 HAT
      cases XV
      · have HN : Hid (HI (d + 1) = 2 * HD) := by show _ = _; rw [HST.out]; rfl
        go_wp2_with fail
        clear hyw hzz
        exact ⟨⟨d + 1, by omega, int_eq (by have := HII.out; omega), by rw [HN.out]; exact int_eq (by omega), HX6⟩, by simp [intOf]⟩
      · have HN : Hid (HI (d + 1) = 2 * HD + 1) := by show _ = _; rw [HST.out]; rfl
        go_wp2_with fail
        clear hyw hzz
        exact ⟨⟨d + 1, by omega, int_eq (by have := HII.out; omega), by rw [HN.out]; exact int_eq (by omega), HX6⟩, by simp [intOf]⟩
    · obtain rfl : d = 15 := by omega
      go_wp2_with fail
      go_ret
      exact ⟨rfl, HX1.out.trans HX.out⟩

set_option maxRecDepth 20000 in
set_option maxHeartbeats 2000000 in
theorem information_v (k copy : Nat) (H : Int) (mo : Option Addr) (Q cap : Nat) (xs : List Bool) (w : World) (hc : copy ≤ 1)
    (hk : 45 ≤ k ∧ k ≤ 177) (hQ : k * k = Q) (hxl : xs.length = Q) (hr : Row w mo (bools xs)) :
    Calls Try.prog 56 #[.agg (matV k H mo Q cap), .int .i64 copy, .int .i64 18] w fun e w' => e = .returned (.int .i64 (rdN k (vrL k copy 18) xs 18)) ∧ Ext w w' := by
  have HFA := fun (i : Nat) (V : World) (hi : i < 18) => Lib.hid (versionAt_any k copy i V ⟨hk.1, by omega⟩ hc hi)
  have HFI := fun (i : Nat) (hi : i < 18) => vrL_in k copy hk.1 (vrAt k copy i) (List.mem_map.2 ⟨i, List.mem_range.2 hi, rfl⟩)
  have HHS : ∀ (d : Nat) (hd : 17 - d < 18), Hid (hiD k (vrL k copy 18) xs 18 (d + 1) = 2 * hiD k (vrL k copy 18) xs 18 d + if xs.getD (posOf k (vrAt k copy (17 - d))) false = true then 1 else 0) := fun d hd => by
    show _ = _
    rw [show hiD k (vrL k copy 18) xs 18 (d + 1) = 2 * hiD k (vrL k copy 18) xs 18 d + bAt k (vrL k copy 18) xs (17 - d) from rfl, bAt_eq (p := vrAt k copy (17 - d)) (by simp [vrL, hd])]
  have HHL := fun d => Lib.hid (hiD_lt k (vrL k copy 18) xs 18 d)
  have HH0 : Hid (hiD k (vrL k copy 18) xs 18 0 = 0) := rfl
  rw [← hiD_all]
  unfold RetPt at HFA
  have HF2 := fun (i : Nat) (V : World) (hi : i < 15) => Lib.hid (formatAt_any k copy i V ⟨by omega, by omega⟩ hc hi)
  unfold RetPt at HF2
  generalize hiD k (vrL k copy 18) xs 18 = HI at HHS HHL HH0 ⊢
  skip
  have HXT := fun (i : Nat) (hi : i < Q) => Lib.hid (bools_get xs i (by omega))
  have HR := Lib.hid hr
  have HPK : Hid (∀ (p : Nat × Nat), p.1 < k → p.2 < k → posOf k p < Q) := fun p hp1 hp2 => by
    have e1 : (p.2 + 1) * k ≤ k * k := Nat.mul_le_mul_right _ hp2
    rw [Nat.add_mul] at e1
    unfold posOf
    omega
  have HPZ : ∀ (x y : Nat), Hid ((y : Int) * (k : Int) + (x : Int) = ((posOf k (x, y) : Nat) : Int)) := fun x y => by show _ = _; unfold posOf; rw [Int.natCast_add, Int.natCast_mul]
  have hQb : Q ≤ 31329 := by rw [← hQ]; exact Nat.mul_le_mul hk.2 hk.2
  clear hr hxl hQ
  obtain ⟨W1, hW1⟩ : ∃ W1, W1 = w.alloc (.cells #[.int .i64 k, .int .i64 H, .slice mo Q cap] 24) := ⟨_, rfl⟩
  have HX1 : Hid (Ext w W1) := by rw [hW1]; exact Ext.alloc _ _
  have HBX : Hid (∀ V, Ext W1 V → V.cell? ⟨w.heap.size, 0, none⟩ = some (.int .i64 k) ∧ V.cell? ⟨w.heap.size, 1, none⟩ = some (.int .i64 H) ∧ V.cell? ⟨w.heap.size, 2, none⟩ = some (.slice mo Q cap)) := by
    intro V hv
    rw [hW1] at hv
    exact box3 hv
  have HW1 := Lib.hid hW1
  clear hW1
  unfold matV
  go_enter Try.func56, Try.ntmps56
  go_wp2_with fail
  rw [← HW1.out]
  go_loopw [7, 8, 9] (fun vv ii _ wr => ∃ d : Nat, d ≤ 18 ∧ ii = .int .i64 (17 - (d : Int)) ∧ vv = .int .i64 (HI d) ∧ Hid (Ext W1 wr)) (fun _ ii _ _ => (intOf ii + 1).toNat)
  case atStart => exact ⟨0, by omega, by rfl, by rw [HH0.out]; rfl, Ext.refl _⟩
  case round =>
    obtain ⟨d, hd, rfl, rfl, HX⟩ := hrel
    obtain ⟨z0, z1, z2⟩ := HBX.out wr HX.out
    by_cases hlt : d < 18
    · obtain ⟨i, hi⟩ : ∃ i, i = 17 - d := ⟨_, rfl⟩
      have hiI : 17 - (d : Int) = (i : Int) := by omega
      have hi15 : i < 18 := by omega
      have HST := HHS d (by omega)
      rw [← hi] at HST
      have hin := HFI i hi15
      have HAT := fun (V : World) => HFA i V hi15
      have hhl := (HHL d).out
      have hpw : 2 ^ d ≤ 2 ^ 18 := Nat.pow_le_pow_right (by decide) hd
      have hpw2 : (2 : Nat) ^ 18 = 262144 := by decide
      rw [hpw2] at hpw
      generalize 2 ^ d = PW at hhl hpw
      generalize vrAt k copy i = p at hin HST HAT
      generalize HI d = HD at hhl HST ⊢
      rw [hiI]
      obtain ⟨i2, hi2⟩ : ∃ i2 : Nat, (i : Int) % 15 = (i2 : Int) := ⟨i % 15, by omega⟩
      have hi3 : i2 < 15 := by omega
      have HF3 := fun (V : World) => HF2 i2 V hi3
      generalize fmAt k copy i2 = pf at HF3
      obtain ⟨fx, fy⟩ := pf
      simp only at HF3
      have HII := Lib.hid hiI
      clear hi hiI hpw2
      skip
      obtain ⟨x, y⟩ := p
      simp only at hin HST HAT
      obtain ⟨zi, hzi⟩ : ∃ zi, zi = posOf k (x, y) := ⟨_, rfl⟩
      have hzQ : zi < Q := by rw [hzi]; exact HPK.out (x, y) hin.1 hin.2
      have hzz := (HPZ x y).out
      rw [← hzi] at HST hzz
      clear hzi
      obtain ⟨ys, hys⟩ : ∃ ys : Nat, (y : Int) * (k : Int) = (ys : Int) := ⟨y * k, (Int.natCast_mul y k).symm⟩
      rw [hys] at hzz
      have hyw : wrap64 ((y : Int) * (k : Int)) = (ys : Int) := by rw [hys]; exact IntWalk.wrap64_in _ ⟨by omega, by omega⟩
      have HYW := Lib.hid hyw
      have HZZ := Lib.hid hzz
      have hzI : (zi : Int) < (Q : Int) := by omega
      have HC := HXT zi hzQ
      clear hys hyw hzz
      generalize xs.getD zi false = XV at HC HST
      go_wp2_with fail
      refine (HF3 _).out.mono ?_
      rintro e w4 ⟨rfl, hx4⟩
      obtain ⟨m0, m1, m2⟩ := HBX.out w4 (HX.out.trans hx4)
      have hs4 : w.heap.size < w4.heap.size := World.block_lt_of_cell? w4 ⟨w.heap.size, 0, none⟩ m0
      have HX4 := Lib.hid (HX.out.trans hx4)
      clear hx4 z0 z1 z2 HF3
      go_wp2_with fail
      refine (HAT _).out.mono ?_
      rintro e w6 ⟨rfl, hx6⟩
      have HG6 := Lib.hid hx6.new
      have HX6a := Lib.hid (HX4.out.trans ((Ext.alloc _ _).trans hx6))
      have HSZ := Lib.hid (show W1.heap.size ≤ w4.heap.size from HX4.out.size)
      clear hx6 m0 m1 m2 hs4 HAT
      cases XV
      · have HN : Hid (HI (d + 1) = 2 * HD) := by show _ = _; rw [HST.out]; rfl
        skip
        go_wp2_with ((with_reducible show wpList _ _ _ (⟨none, .store 45 _ _, _, _, _, _⟩ :: _) _ _); refine wpList_storeOwnK rfl 45 _ _ rfl w4.heap.size _ rfl rfl 45 _ HG6.out (by kernel_rfl) (by kernel_rfl) (by kernel_rfl) W1 HX6a.out HSZ.out ?_; intro w7 HX7 HG7 HK7; obtain ⟨m0, m1, m2⟩ := HBX.out w7 HX7; obtain ⟨p0, p1⟩ := cells2' HG7.out; obtain ⟨am, rfl, hcm⟩ := (HR.out.ext (HX1.out.trans HX7)).at HC.out; have hyw := HYW.out; have hzz := HZZ.out)
        clear hyw hzz
        exact ⟨⟨d + 1, by omega, int_eq (by have := HII.out; omega), by rw [HN.out]; exact int_eq (by omega), HX7⟩, by simp [intOf]⟩
      · have HN : Hid (HI (d + 1) = 2 * HD + 1) := by show _ = _; rw [HST.out]; rfl
        skip
        go_wp2_with ((with_reducible show wpList _ _ _ (⟨none, .store 45 _ _, _, _, _, _⟩ :: _) _ _); refine wpList_storeOwnK rfl 45 _ _ rfl w4.heap.size _ rfl rfl 45 _ HG6.out (by kernel_rfl) (by kernel_rfl) (by kernel_rfl) W1 HX6a.out HSZ.out ?_; intro w7 HX7 HG7 HK7; obtain ⟨m0, m1, m2⟩ := HBX.out w7 HX7; obtain ⟨p0, p1⟩ := cells2' HG7.out; obtain ⟨am, rfl, hcm⟩ := (HR.out.ext (HX1.out.trans HX7)).at HC.out; have hyw := HYW.out; have hzz := HZZ.out)
        clear hyw hzz
        exact ⟨⟨d + 1, by omega, int_eq (by have := HII.out; omega), by rw [HN.out]; exact int_eq (by omega), HX7⟩, by simp [intOf]⟩
    · obtain rfl : d = 18 := by omega
      go_wp2_with fail
      go_ret
      exact ⟨rfl, HX1.out.trans HX.out⟩

/-- How two readings compare. -/
theorem read_cases (e f c d : Int) : ((e != 0) = true ∧ (f != 0) = true ∧ (e == 0) = false ∧ ¬ (f = 0 ∧ (e ≠ 0 ∨ c < d))) ∨ ((e != 0) = true ∧ (f != 0) = false ∧ (f = 0 ∧ (e ≠ 0 ∨ c < d))) ∨
    ((e != 0) = false ∧ (f == 0) = true ∧ c < d ∧ (f = 0 ∧ (e ≠ 0 ∨ c < d))) ∨ ((e != 0) = false ∧ (f == 0) = true ∧ d ≤ c ∧ (e == 0) = true ∧ ¬ (f = 0 ∧ (e ≠ 0 ∨ c < d))) ∨ ((e != 0) = false ∧ (f == 0) = false ∧ (e == 0) = true ∧ ¬ (f = 0 ∧ (e ≠ 0 ∨ c < d))) := by
  by_cases he : e = 0
  · have h1 : (e != 0) = false := by simpa using he
    have h1' : (e == 0) = true := by simpa using he
    by_cases hf : f = 0
    · have h2 : (f == 0) = true := by simpa using hf
      by_cases h : c < d
      · exact .inr (.inr (.inl ⟨h1, h2, h, hf, .inr h⟩))
      · exact .inr (.inr (.inr (.inl ⟨h1, h2, by omega, h1', by omega⟩)))
    · exact .inr (.inr (.inr (.inr ⟨h1, by simpa using hf, h1', fun h => hf h.1⟩)))
  · have h1 : (e != 0) = true := by simpa using he
    by_cases hf : f = 0
    · exact .inr (.inl ⟨h1, by simpa using hf, hf, .inl he⟩)
    · exact .inl ⟨h1, by simpa using hf, by simpa using he, fun h => hf h.1⟩


def agRes (k : Nat) (xs : List Bool) (v : Int) : Int := if (rvRes k xs).2 = false then 21 else if (rvRes k xs).1 ≠ v then 14 else 0

set_option maxRecDepth 20000 in
set_option maxHeartbeats 2000000 in
theorem agrees_any (k : Nat) (H : Int) (mo : Option Addr) (Q cap : Nat) (xs : List Bool) (v : Int) (w : World)
    (hk : 45 ≤ k ∧ k ≤ 177) (hQ : k * k = Q) (hxl : xs.length = Q) (hr : Row w mo (bools xs)) :
    Calls Try.prog 54 #[.agg (matV k H mo Q cap), .int .i64 v] w fun e w' => e = .returned (.int .i64 (agRes k xs v)) ∧ Ext w w' := by
  have HI := fun (copy : Nat) (hc : copy ≤ 1) (V : World) (h : Row V mo (bools xs)) => Lib.hid (information_v k copy H mo Q cap xs V hc hk hQ hxl h)
  have HI0 := HI 0 (by decide)
  have HI1 := HI 1 (by decide)
  have HPV := fun (x : Int) (V : World) => Lib.hid (rparseVersion_any x V)
  have HP0 := HPV (rdN k (vrL k 0 18) xs 18)
  have HP1 := HPV (rdN k (vrL k 1 18) xs 18)
  have HR := Lib.hid hr
  unfold agRes rvRes
  unfold three at HP0 HP1
  clear HI HPV hr hQ hxl
  generalize pvRes (rdN k (vrL k 0 18) xs 18) = A at HP0 ⊢
  generalize pvRes (rdN k (vrL k 1 18) xs 18) = B at HP1 ⊢
  generalize rdN k (vrL k 0 18) xs 18 = R0 at HI0 HP0
  generalize rdN k (vrL k 1 18) xs 18 = R1 at HI1 HP1
  obtain ⟨n, d, e0⟩ := A
  obtain ⟨o, c, e2⟩ := B
  simp only at HP0 HP1
  have z01 : ((0 : Nat) : Int) = 0 := rfl
  have z11 : ((1 : Nat) : Int) = 1 := rfl
  rw [z01] at HI0
  rw [z11] at HI1
  have HPK : ∃ r : Int × Bool, pick3 (n, d, e0) (o, c, e2) = r ∧ ((((e0 != 0) = true ∧ (e2 != 0) = true) ∧ r.2 = false) ∨ (((e0 != 0) = true ∧ (e2 != 0) = false ∧ (e2 == 0) = true) ∧ r = (o, true)) ∨ (((e0 != 0) = false ∧ (e2 == 0) = true ∧ c < d) ∧ r = (o, true)) ∨ (((e0 != 0) = false ∧ (e2 == 0) = true ∧ d ≤ c) ∧ r = (n, true)) ∨ (((e0 != 0) = false ∧ (e2 == 0) = false) ∧ r = (n, true))) := by
    refine ⟨_, rfl, ?_⟩
    rcases read_cases e0 e2 c d with ⟨a1, a2, a3, a4⟩ | ⟨a1, a2, a3⟩ | ⟨a1, a2, a3, a4⟩ | ⟨a1, a2, a3, a4, a5⟩ | ⟨a1, a2, a3, a4⟩
    · exact .inl ⟨⟨a1, a2⟩, by unfold pick3; rw [if_neg a4]; exact a3⟩
    · exact .inr (.inl ⟨⟨a1, a2, by simpa using a3.1⟩, by unfold pick3; rw [if_pos a3]⟩)
    · exact .inr (.inr (.inl ⟨⟨a1, a2, a3⟩, by unfold pick3; rw [if_pos a4]⟩))
    · exact .inr (.inr (.inr (.inl ⟨⟨a1, a2, a3⟩, by unfold pick3; rw [if_neg a5]; exact Prod.ext rfl a4⟩)))
    · exact .inr (.inr (.inr (.inr ⟨⟨a1, a2⟩, by unfold pick3; rw [if_neg a4]; exact Prod.ext rfl a3⟩)))
  obtain ⟨⟨rn, rb⟩, hpk, hcs⟩ := HPK
  rw [hpk]
  clear hpk z01 z11
  unfold matV at *
  simp only [Prod.mk.injEq] at hcs ⊢
  rcases hcs with ⟨⟨a1, a2⟩, rfl⟩ | ⟨⟨a1, a2, a3⟩, rfl, rfl⟩ | ⟨⟨a1, a2, a3⟩, rfl, rfl⟩ | ⟨⟨a1, a2, a3⟩, rfl, rfl⟩ | ⟨⟨a1, a2⟩, rfl, rfl⟩
  · rw [if_pos rfl]
    skip
    go_enter Try.func54, Try.ntmps54
    go_wp2_with fail
    refine (HI0 _ (HR.out.ext (Ext.alloc _ _))).out.mono ?_
    rintro e w1 ⟨rfl, hx1⟩
    obtain ⟨z0, z1, z2⟩ := box3 hx1
    have HX1 := Lib.hid ((Ext.alloc w _).trans hx1)
    clear hx1
    go_wp2_with fail
    refine (HP0 _).out.mono ?_
    rintro e w2 ⟨rfl, rfl⟩
    go_wp2_with fail
    refine (HI1 _ (HR.out.ext HX1.out)).out.mono ?_
    rintro e w3 ⟨rfl, hx3⟩
    have HX4 := Lib.hid (HX1.out.trans hx3)
    clear hx3 z0 z1 z2
    go_wp2_with fail
    refine (HP1 _).out.mono ?_
    rintro e w4 ⟨rfl, rfl⟩
    go_wp2_with fail
    go_ret
    exact ⟨rfl, HX4.out⟩
  all_goals
    rw [if_neg (by decide)]
    by_cases hv : rn = v
    · rw [if_neg (by simpa using hv)]
      have hv' : (rn != v) = false := by simpa using hv
      clear hv
      skip
      go_enter Try.func54, Try.ntmps54
      go_wp2_with fail
      refine (HI0 _ (HR.out.ext (Ext.alloc _ _))).out.mono ?_
      rintro e w1 ⟨rfl, hx1⟩
      obtain ⟨z0, z1, z2⟩ := box3 hx1
      have HX1 := Lib.hid ((Ext.alloc w _).trans hx1)
      clear hx1
      go_wp2_with fail
      refine (HP0 _).out.mono ?_
      rintro e w2 ⟨rfl, rfl⟩
      go_wp2_with fail
      refine (HI1 _ (HR.out.ext HX1.out)).out.mono ?_
      rintro e w3 ⟨rfl, hx3⟩
      have HX4 := Lib.hid (HX1.out.trans hx3)
      clear hx3 z0 z1 z2
      go_wp2_with fail
      refine (HP1 _).out.mono ?_
      rintro e w4 ⟨rfl, rfl⟩
      go_wp2_with fail
      go_ret
      exact ⟨rfl, HX4.out⟩
    · rw [if_pos hv]
      have hv' : (rn != v) = true := by simpa using hv
      clear hv
      skip
      go_enter Try.func54, Try.ntmps54
      go_wp2_with fail
      refine (HI0 _ (HR.out.ext (Ext.alloc _ _))).out.mono ?_
      rintro e w1 ⟨rfl, hx1⟩
      obtain ⟨z0, z1, z2⟩ := box3 hx1
      have HX1 := Lib.hid ((Ext.alloc w _).trans hx1)
      clear hx1
      go_wp2_with fail
      refine (HP0 _).out.mono ?_
      rintro e w2 ⟨rfl, rfl⟩
      go_wp2_with fail
      refine (HI1 _ (HR.out.ext HX1.out)).out.mono ?_
      rintro e w3 ⟨rfl, hx3⟩
      have HX4 := Lib.hid (HX1.out.trans hx3)
      clear hx3 z0 z1 z2
      go_wp2_with fail
      refine (HP1 _).out.mono ?_
      rintro e w4 ⟨rfl, rfl⟩
      go_wp2_with fail
      go_ret
      exact ⟨rfl, HX4.out⟩

theorem rdRes_eq (n : Nat) (xs : List Bool) : rdRes n xs = if 7 ≤ n ∧ agRes (sd n) xs n ≠ 0 then (0, 0, 0, agRes (sd n) xs n) else if (rfRes (sd n) xs).2 = false then (0, 0, 0, 21) else ((n : Int), (rfRes (sd n) xs).1.1, (rfRes (sd n) xs).1.2, 0) := by
  unfold rdRes agRes
  by_cases h7 : 7 ≤ n
  · by_cases h1 : (rvRes (sd n) xs).2 = false
    · simp [h7, h1]
    · by_cases h2 : (rvRes (sd n) xs).1 = n
      · simp [h1, h2]
      · simp [h7, h1, h2]
  · simp [h7]

set_option maxRecDepth 20000 in
set_option maxHeartbeats 1000000 in
theorem rread_no (W H : Int) (ao : Option Addr) (n cap : Nat) (w : World) (hc : mcode W H n ≠ 0) :
    Calls Try.prog 20 #[.agg (matV W H ao n cap)] w fun e w' => e = .returned (four (0, 0, 0, mcode W H n)) ∧ Ext w w' := by
  have HLO := fun (V : World) => Lib.hid (rversion20_no W H ao n cap V hc)
  have hc' : (mcode W H n == 0) = false := by simpa using hc
  have hc2 : (mcode W H n != 0) = true := by simpa using hc
  unfold matV two four at *
  simp only at HLO ⊢
  clear hc
  generalize mcode W H n = C at HLO hc' hc2 ⊢
  go_enter Try.func20, Try.ntmps20
  go_wp2_with fail
  refine (HLO _).out.mono ?_
  rintro e w1 ⟨rfl, hx1⟩
  have HX1 := Lib.hid ((Ext.alloc w _).trans hx1)
  clear hx1
  go_wp2_with fail
  exact bodyPost_ret (results_tmp4 rfl _ _ _) rfl ⟨rfl, HX1.out⟩


set_option maxRecDepth 20000 in
set_option maxHeartbeats 2000000 in
theorem rread_ok (n : Nat) (h1 : 1 ≤ n) (h2 : n ≤ 40) (xs : List Bool) (ao : Option Addr) (cap : Nat) (w : World) (hl : xs.length = sd n * sd n) (hr : Row w ao (bools xs)) :
    Calls Try.prog 20 #[.agg (matV (sd n) (sd n) ao (sd n * sd n) cap)] w fun e w' => e = .returned (four (rdRes n xs)) ∧ Ext w w' := by
  have hsb : 21 ≤ sd n ∧ sd n ≤ 177 := by unfold sd; omega
  have HLO := fun (V : World) => Lib.hid (rversion20_ok n h1 h2 ao cap V)
  have HAG0 := fun (h7 : 7 ≤ n) (V : World) (h : Row V ao (bools xs)) => Lib.hid (agrees_any (sd n) (sd n) ao (sd n * sd n) cap xs n V ⟨by unfold sd; omega, hsb.2⟩ rfl hl h)
  have HI0 := fun (V : World) (h : Row V ao (bools xs)) => Lib.hid (information_f (sd n) 0 (sd n) ao (sd n * sd n) cap xs V (by decide) hsb rfl hl h)
  have HI1 := fun (V : World) (h : Row V ao (bools xs)) => Lib.hid (information_f (sd n) 1 (sd n) ao (sd n * sd n) cap xs V (by decide) hsb rfl hl h)
  have HP0 := fun (V : World) => Lib.hid (rparseFormat_any (rdN (sd n) (fmL (sd n) 0 15) xs 15) V)
  have HP1 := fun (V : World) => Lib.hid (rparseFormat_any (rdN (sd n) (fmL (sd n) 1 15) xs 15) V)
  have HR := Lib.hid hr
  rw [rdRes_eq]
  unfold matV two at *
  have z01 : ((0 : Nat) : Int) = 0 := rfl
  have z11 : ((1 : Nat) : Int) = 1 := rfl
  rw [z01] at HI0
  rw [z11] at HI1
  clear z01 z11 hr hl
  by_cases hag : 7 ≤ n ∧ agRes (sd n) xs n ≠ 0
  · rw [if_pos hag]
    have HAG := HAG0 hag.1
    have hc' : (agRes (sd n) xs n != 0) = true := by simpa using hag.2
    have n7 : (7 : Int) ≤ n := by omega
    generalize agRes (sd n) xs n = C at HAG hc' ⊢
    unfold four
    clear hag HI0 HI1 HP0 HP1 HAG0
    generalize sd n * sd n = Q at *
    generalize sd n = k at *
    simp only at HLO ⊢
    skip
    go_enter Try.func20, Try.ntmps20
    go_wp2_with fail
    refine (HLO _).out.mono ?_
    rintro e w1 ⟨rfl, hx1⟩
    obtain ⟨z0, z1, z2⟩ := box3 hx1
    have HB1 := Lib.hid hx1
    have HX1 := Lib.hid ((Ext.alloc w _).trans hx1)
    clear hx1
    skip
    go_wp2_with fail
    refine (HAG _ (HR.out.ext HX1.out)).out.mono ?_
    rintro e w2 ⟨rfl, hx2⟩
    obtain ⟨z0, z1, z2⟩ := box3 (HB1.out.trans hx2)
    have HB2 := Lib.hid (HB1.out.trans hx2)
    have HX2 := Lib.hid (HX1.out.trans hx2)
    clear hx2
    go_wp2_with fail
    exact bodyPost_ret (results_tmp4 rfl _ _ _) rfl ⟨rfl, HX2.out⟩
  · rw [if_neg hag]
    have hn7 : (7 ≤ n ∧ agRes (sd n) xs n = 0) ∨ n < 7 := by
      by_cases h : 7 ≤ n
      · exact .inl ⟨h, by
          by_cases e : agRes (sd n) xs n = 0
          · exact e
          · exact absurd ⟨h, e⟩ hag⟩
      · exact .inr (by omega)
    unfold rfRes
    unfold four at *
    clear hag
    generalize pfRes (rdN (sd n) (fmL (sd n) 0 15) xs 15) = A at HP0 ⊢
    generalize pfRes (rdN (sd n) (fmL (sd n) 1 15) xs 15) = B at HP1 ⊢
    generalize rdN (sd n) (fmL (sd n) 0 15) xs 15 = R0 at HI0 HP0
    generalize rdN (sd n) (fmL (sd n) 1 15) xs 15 = R1 at HI1 HP1
    obtain ⟨l, m, d, e0⟩ := A
    obtain ⟨o, q, c, e2⟩ := B
    simp only at HP0 HP1 HLO
    have HPK : ∃ r : (Int × Int) × Bool, pick4 (l, m, d, e0) (o, q, c, e2) = r ∧ ((((e0 != 0) = true ∧ (e2 != 0) = true) ∧ r.2 = false) ∨ (((e0 != 0) = true ∧ (e2 != 0) = false ∧ (e2 == 0) = true) ∧ r = ((o, q), true)) ∨ (((e0 != 0) = false ∧ (e2 == 0) = true ∧ c < d) ∧ r = ((o, q), true)) ∨ (((e0 != 0) = false ∧ (e2 == 0) = true ∧ d ≤ c) ∧ r = ((l, m), true)) ∨ (((e0 != 0) = false ∧ (e2 == 0) = false) ∧ r = ((l, m), true))) := by
      refine ⟨_, rfl, ?_⟩
      rcases read_cases e0 e2 c d with ⟨a1, a2, a3, a4⟩ | ⟨a1, a2, a3⟩ | ⟨a1, a2, a3, a4⟩ | ⟨a1, a2, a3, a4, a5⟩ | ⟨a1, a2, a3, a4⟩
      · exact .inl ⟨⟨a1, a2⟩, by unfold pick4; rw [if_neg a4]; exact a3⟩
      · exact .inr (.inl ⟨⟨a1, a2, by simpa using a3.1⟩, by unfold pick4; rw [if_pos a3]⟩)
      · exact .inr (.inr (.inl ⟨⟨a1, a2, a3⟩, by unfold pick4; rw [if_pos a4]⟩))
      · exact .inr (.inr (.inr (.inl ⟨⟨a1, a2, a3⟩, by unfold pick4; rw [if_neg a5]; exact Prod.ext rfl a4⟩)))
      · exact .inr (.inr (.inr (.inr ⟨⟨a1, a2⟩, by unfold pick4; rw [if_neg a4]; exact Prod.ext rfl a3⟩)))
    obtain ⟨⟨⟨r1, r2⟩, rb⟩, hpk, hcs⟩ := HPK
    rw [hpk]
    clear hpk
    simp only [Prod.mk.injEq] at hcs ⊢
    rcases hn7 with ⟨h7, hag⟩ | h7
    · have HAG := HAG0 h7
      rw [hag] at HAG
      have n7 : (7 : Int) ≤ n := by omega
      clear hag h7 HAG0
      generalize sd n * sd n = Q at *
      generalize sd n = k at *
      rcases hcs with ⟨⟨a1, a2⟩, rfl⟩ | ⟨⟨a1, a2, a3⟩, ⟨rfl, rfl⟩, rfl⟩ | ⟨⟨a1, a2, a3⟩, ⟨rfl, rfl⟩, rfl⟩ | ⟨⟨a1, a2, a3⟩, ⟨rfl, rfl⟩, rfl⟩ | ⟨⟨a1, a2⟩, ⟨rfl, rfl⟩, rfl⟩
      all_goals
        first | rw [if_pos rfl] | rw [if_neg (by decide)]
        skip
        go_enter Try.func20, Try.ntmps20
        go_wp2_with fail
        refine (HLO _).out.mono ?_
        rintro e w1 ⟨rfl, hx1⟩
        obtain ⟨z0, z1, z2⟩ := box3 hx1
        have HB1 := Lib.hid hx1
        have HX1 := Lib.hid ((Ext.alloc w _).trans hx1)
        clear hx1
        skip
        go_wp2_with fail
        refine (HAG _ (HR.out.ext HX1.out)).out.mono ?_
        rintro e w2 ⟨rfl, hx2⟩
        obtain ⟨z0, z1, z2⟩ := box3 (HB1.out.trans hx2)
        have HB2 := Lib.hid (HB1.out.trans hx2)
        have HX2 := Lib.hid (HX1.out.trans hx2)
        clear hx2
        skip
        go_wp2_with fail
        refine (HI0 _ (HR.out.ext HX2.out)).out.mono ?_
        rintro e w3 ⟨rfl, hx3⟩
        obtain ⟨z0, z1, z2⟩ := box3 (HB2.out.trans hx3)
        have HX3 := Lib.hid (HX2.out.trans hx3)
        clear hx3
        go_wp2_with fail
        refine (HP0 _).out.mono ?_
        rintro e w4 ⟨rfl, rfl⟩
        go_wp2_with fail
        refine (HI1 _ (HR.out.ext HX3.out)).out.mono ?_
        rintro e w5 ⟨rfl, hx5⟩
        have HX5 := Lib.hid (HX3.out.trans hx5)
        clear hx5 z0 z1 z2
        go_wp2_with fail
        refine (HP1 _).out.mono ?_
        rintro e w6 ⟨rfl, rfl⟩
        go_wp2_with fail
        exact bodyPost_ret (results_tmp4 rfl _ _ _) rfl ⟨rfl, HX5.out⟩
    · have n7 : (n : Int) < 7 := by omega
      clear h7 HAG0
      generalize sd n * sd n = Q at *
      generalize sd n = k at *
      rcases hcs with ⟨⟨a1, a2⟩, rfl⟩ | ⟨⟨a1, a2, a3⟩, ⟨rfl, rfl⟩, rfl⟩ | ⟨⟨a1, a2, a3⟩, ⟨rfl, rfl⟩, rfl⟩ | ⟨⟨a1, a2, a3⟩, ⟨rfl, rfl⟩, rfl⟩ | ⟨⟨a1, a2⟩, ⟨rfl, rfl⟩, rfl⟩
      all_goals
        first | rw [if_pos rfl] | rw [if_neg (by decide)]
        skip
        go_enter Try.func20, Try.ntmps20
        go_wp2_with fail
        refine (HLO _).out.mono ?_
        rintro e w1 ⟨rfl, hx1⟩
        obtain ⟨z0, z1, z2⟩ := box3 hx1
        have HB1 := Lib.hid hx1
        have HX1 := Lib.hid ((Ext.alloc w _).trans hx1)
        clear hx1
        skip
        go_wp2_with fail
        refine (HI0 _ (HR.out.ext HX1.out)).out.mono ?_
        rintro e w3 ⟨rfl, hx3⟩
        obtain ⟨z0, z1, z2⟩ := box3 (HB1.out.trans hx3)
        have HX3 := Lib.hid (HX1.out.trans hx3)
        clear hx3
        go_wp2_with fail
        refine (HP0 _).out.mono ?_
        rintro e w4 ⟨rfl, rfl⟩
        go_wp2_with fail
        refine (HI1 _ (HR.out.ext HX3.out)).out.mono ?_
        rintro e w5 ⟨rfl, hx5⟩
        have HX5 := Lib.hid (HX3.out.trans hx5)
        clear hx5 z0 z1 z2
        go_wp2_with fail
        refine (HP1 _).out.mono ?_
        rintro e w6 ⟨rfl, rfl⟩
        go_wp2_with fail
        exact bodyPost_ret (results_tmp4 rfl _ _ _) rfl ⟨rfl, HX5.out⟩

end Go.Proofs.Ytjkpdhcnklgfbaa
