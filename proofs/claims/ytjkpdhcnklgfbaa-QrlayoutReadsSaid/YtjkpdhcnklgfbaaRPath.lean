/-
  The contract of the reference's Path.
  Condition: none.
-/
import Derived.Test.YtjkpdhcnklgfbaaPathPlain
import Derived.Deep.DeepCutAuto
namespace Go.Proofs.Ytjkpdhcnklgfbaa
open Go.RowKit Go.Bs Go.Qrv Go.Lay

/-- The loop's variable ahead of the k-th way. -/
def rvZ (s k : Nat) : Int := if 2 * k + 7 ≤ s then (s : Int) - 1 - 2 * k else (s : Int) - 2 - 2 * k



theorem own_addr2 {w : World} {B : Nat} {e : TypeId} {sz : Nat} {ao : Option Addr} {n c n' : Nat} {xs : List Value} (h : w.ownsRow B e sz (.slice ao n c) n' xs) {a : Addr} (ha : ao = some a) : B ≤ a.block := by
  rcases h.2 with ⟨hv, _⟩ | ⟨g, cap, cur, hv, hb, _⟩
  · subst ha
    cases hv
  · subst ha
    simp only [Value.slice.injEq, Option.some.injEq] at hv
    rw [hv.1]
    exact hb
/-- Points and an error are returned; the points lie in new memory. -/
def RetPtsB (w : World) (r : List (Nat × Nat) × Int) (e : Ending) (w' : World) : Prop :=
  ∃ ao cap, e = .returned (.tuple #[.slice ao r.1.length cap, .int .i64 r.2]) ∧ Pts w' ao r.1 ∧ r.1.length ≤ cap ∧ cap ≤ 9223372036854775807 ∧ Ext w w' ∧ ∀ a, ao = some a → w.heap.size ≤ a.block

set_option maxRecDepth 20000 in
set_option maxHeartbeats 4000000 in
theorem rpath_own (v : Int) (w : World) : Calls Try.prog 26 #[.int .i64 v] w (RetPtsB w (pathRes v)) := by
  by_cases hv : inV v
  · obtain ⟨n, rfl, h1, h2⟩ := inV_nat hv
    rw [pathRes_1 hv]
    have hsb : 21 ≤ sd n ∧ sd n ≤ 177 := by unfold sd; omega
    have hodd : sd n % 2 = 1 := by unfold sd; omega
    have HCE := Lib.hid (rcells_res n w)
    rw [cellsRes_1 hv] at HCE
    have HLEN := Lib.hid (cellsN_len n)
    have HSD : Hid ((17 + 4 * (n : Int)) = ((sd n : Nat) : Int)) := by unfold sd; show _ = _; omega
    have HCD : Hid (∀ x y, x < sd n → y < sd n → (ints (cellsN n))[y * sd n + x]? = some (.int .i64 (pur n (sd n) (al n) x y))) := cellsN_D n
    have HV : Hid (∀ k i j, visit n k i j = if (pur n (sd n) (al n) ((rtN (sd n) k - j : Nat) : Int) ((yOf (sd n) k i : Nat) : Int) == 1) = true then [(rtN (sd n) k - j, yOf (sd n) k i)] else []) := fun k i j => rfl
    have HEND : Hid (pre n ((sd n - 1) / 2) 0 0 = pathN n) := pre_end n
    have HCOL : Hid (∀ k, pre n (k + 1) 0 0 = pre n k (sd n) 0) := pre_col n
    have HPL : Hid (∀ k i j, k ≤ 100 → i ≤ 177 → j ≤ 2 → (pre n k i j).length ≤ 100000) := fun k i j => pre_len n k i j hsb.2
    clear hv
    simp only at HCE ⊢
    have HLC : Hid ((cellsN n).length = sd n * sd n) := by rw [← length_ints]; exact HLEN.out
    generalize cellsN n = C at HCE HLEN HCD HLC
    generalize pathN n = PN at HEND ⊢
    generalize sd n = s at HSD hsb hodd HLEN HCD HV HEND HCOL HLC
    obtain ⟨Q, hQ⟩ : ∃ Q, s * s = Q := ⟨_, rfl⟩
    have hQb : Q ≤ 31329 := by rw [← hQ]; exact Nat.mul_le_mul hsb.2 hsb.2
    rw [hQ] at HLEN HLC
    have HQ := Lib.hid hQ
    clear hQ
    go_enter Try.func26, Try.ntmps26
    go_wp2_with fail
    refine HCE.out.mono ?_
    intro e w1 hret
    obtain ⟨b1, c1, rfl, hr1, hl1, hm1, _, hx1⟩ := hret.ints
    have HR1 := Lib.hid hr1
    have HX1 := Lib.hid hx1
    clear hret hr1 hx1
    simp only at hl1 ⊢
    rw [HLC.out] at hl1 ⊢
    have hsd := HSD.out
    go_wp2_with fail
    clear hsd
    go_loopw [7, 8, 9, 10, 11, 12] (fun out up rt _ _ _ wr => ∃ k : Nat, 2 * k + 1 ≤ s ∧ rt = .int .i64 (rvZ s k) ∧ up = .bool (k % 2 == 0) ∧ Hid (wr.ownsRow w1.heap.size 45 2 out (pre n k 0 0).length (pcells (pre n k 0 0))) ∧ Hid (Ext w1 wr)) (fun _ _ rt _ _ _ _ => (intOf rt + 1).toNat)
    case atStart => exact ⟨0, by omega, int_eq (by unfold rvZ; rw [if_pos (by omega)]; omega), rfl, World.ownsRow_nil _ _ _ _, Ext.refl _⟩
    case round =>
      obtain ⟨k, hk, rfl, rfl, HOWN, HX⟩ := hrel
      have hkk : k ≤ 100 := by omega
      obtain ⟨rv, hrv⟩ : ∃ rv, rv = rvZ s k := ⟨_, rfl⟩
      have hrv2 : (((rv = rtN s k ∧ rtN s k ≠ 6) ∨ (rv = 6 ∧ rtN s k = 5)) ∧ rtN s k ≠ 6 ∧ 1 ≤ rtN s k ∧ rtN s k + 1 ≤ s ∧ (rtN s k : Int) - 2 = rvZ s (k + 1) ∧ 2 * k + 3 ≤ s ∧ (rtN s k : Int) ≤ rv) ∨ (2 * k + 1 = s ∧ rv = -1) := by
        rw [hrv]
        unfold rvZ rtN
        split <;> split <;> split <;> omega
      rw [← hrv]
      clear hrv
      obtain ⟨rt, hrt⟩ : ∃ rt, rtN s k = rt := ⟨_, rfl⟩
      rw [hrt] at hrv2
      have HRT := Lib.hid hrt
      clear hrt
      rcases hrv2 with ⟨c1, c2, c3, c4, c5, c7, c8⟩ | ⟨c1, rfl⟩
      · have HNX := Lib.hid c5
        clear c5
        have hpos : 0 < rv := by rcases c1 with ⟨h, _⟩ | ⟨h, _⟩ <;> omega
        go_upto_if 31 with fail
        go_cut [9] (fun rr wx => rr = .int .i64 (rt : Int) ∧ wx = wr)
        case first =>
          rcases c1 with ⟨rfl, c6⟩ | ⟨rfl, c6⟩
          · have e6 : ((rt : Int) == 6) = false := by simp; omega
            go_wp2_with fail
            go_meet
            exact ⟨rfl, rfl⟩
          · go_wp2_with fail
            go_meet
            exact ⟨int_eq (by omega), rfl⟩
        case rest =>
          obtain ⟨rfl, rfl⟩ := hcut
          clear c1 hpos
          skip
          go_wp2_with fail
          go_loopw [7, 10, 11, 12] (fun out ii _ _ wr => ∃ i : Nat, i ≤ s ∧ ii = .int .i64 i ∧ Hid (wr.ownsRow w1.heap.size 45 2 out (pre n k i 0).length (pcells (pre n k i 0))) ∧ Hid (Ext w1 wr)) (fun _ ii _ _ _ => s - (intOf ii).toNat)
          case atStart => exact ⟨0, Nat.zero_le _, rfl, HOWN, HX⟩
          case round =>
            clear HOWN HX
            obtain ⟨i, hi, rfl, HOWN, HX⟩ := hrel
            by_cases hlti : i < s
            · have hyb : yOf s k i < s := by unfold yOf; split <;> omega
              have hyv : (k % 2 = 0 ∧ yOf s k i = s - 1 - i) ∨ (k % 2 ≠ 0 ∧ yOf s k i = i) := by unfold yOf; split <;> simp_all
              have hyw : yOf s k i * s ≤ 31329 := by have := Nat.mul_le_mul (show yOf s k i ≤ 177 by omega) hsb.2; omega
              have HYS : Hid (wrap64 (((yOf s k i : Nat) : Int) * ((s : Nat) : Int)) = ((yOf s k i * s : Nat) : Int)) := by rw [← Int.natCast_mul]; exact IntWalk.wrap64_in _ ⟨by omega, by omega⟩
              have HVS := fun (j : Nat) => Lib.hid (HV.out k i j)
              have HCY := fun (x : Nat) (hx : x < s) => Lib.hid (HCD.out x (yOf s k i) hx hyb)
              have hix : ∀ x, x < s → yOf s k i * s + x < Q := fun x hx => by
                have h1 : (yOf s k i + 1) * s ≤ s * s := Nat.mul_le_mul_right s hyb
                have h2 := HQ.out
                rw [Nat.add_mul] at h1
                omega
              have HIX := Lib.hid hix
              clear hix
              obtain ⟨y, hy⟩ : ∃ y, y = yOf s k i := ⟨_, rfl⟩
              rw [← hy] at hyb hyv hyw HYS HVS HCY HIX
              have HYY := Lib.hid hy
              clear hy
              obtain ⟨ys, hys⟩ : ∃ ys, ys = y * s := ⟨_, rfl⟩
              rw [← hys] at hyw HYS HCY HIX
              clear hys
              go_upto_if 38 with fail
              go_cut [11] (fun yy wx => yy = .int .i64 (y : Int) ∧ wx = wr)
              case first =>
                rcases hyv with ⟨hk2, hyv⟩ | ⟨hk2, hyv⟩
                · have hup : (k % 2 == 0) = true := by simp [hk2]
                  have hyI : (s : Int) - 1 - (i : Int) = (y : Int) := by omega
                  clear hyv
                  go_wp2_with fail
                  go_meet
                  exact ⟨rfl, rfl⟩
                · have hup : (k % 2 == 0) = false := by simp [hk2]
                  subst hyv
                  go_wp2_with fail
                  go_meet
                  exact ⟨rfl, rfl⟩
              case rest =>
                obtain ⟨rfl, rfl⟩ := hcut
                clear hyv HYY
                skip
                go_wp2_with fail
                go_loopw [7, 12] (fun out xx wr => ∃ j : Nat, j ≤ 2 ∧ xx = .int .i64 ((rt : Int) - (j : Int)) ∧ Hid (wr.ownsRow w1.heap.size 45 2 out (pre n k i j).length (pcells (pre n k i j))) ∧ Hid (Ext w1 wr)) (fun _ xx _ => (intOf xx - ((rt : Int) - 2)).toNat)
                case atStart => exact ⟨0, by omega, int_eq (by omega), HOWN, HX⟩
                case round =>
                  clear HOWN HX
                  obtain ⟨j, hj, rfl, HOWN, HX⟩ := hrel
                  by_cases hltj : j < 2
                  · have HVJ := HVS j
                    have HPJ := Lib.hid (HPL.out k i j hkk (by omega) (by omega))
                    have HPV := Lib.hid (pre_visit n k i j)
                    obtain ⟨xv, hxv⟩ : ∃ xv, xv = rt - j := ⟨_, rfl⟩
                    have hxI : (rt : Int) - (j : Int) = (xv : Int) := by omega
                    have hxs : xv < s := by omega
                    have HXI := Lib.hid hxI
                    have hx1 : (rt : Int) - 1 ≤ (xv : Int) := by omega
                    rw [hxI]
                    rw [HRT.out, ← hxv] at HVJ
                    clear hxv hxI
                    have HCJ := HCY xv hxs
                    have hixx := HIX.out xv hxs
                    obtain ⟨zi, hzi⟩ : ∃ zi, zi = ys + xv := ⟨_, rfl⟩
                    have hsum : wrap64 ((ys : Int) + (xv : Int)) = (zi : Int) := by rw [hzi, Int.natCast_add]; exact IntWalk.wrap64_in _ ⟨by omega, by omega⟩
                    have HSUM := Lib.hid hsum
                    rw [← hzi] at hixx HCJ
                    clear hzi hsum
                    obtain ⟨PC, hPC⟩ : ∃ PC, PC = pur n s (al n) xv (y : Nat) := ⟨_, rfl⟩
                    rw [← hPC] at HVJ HCJ
                    clear hPC
                    obtain ⟨ad, rfl, hca⟩ := (HR1.out.ext HX.out).at HCJ.out
                    cases hpc : PC == 1
                    · rw [hpc] at HVJ
                      have HPV2 : Hid (pre n k i (j + 1) = pre n k i j) := by show _ = _; have h1 := HPV.out; have h2 := HVJ.out; rw [h2] at h1; simpa using h1
                      clear HPV HVJ
                      have hys2 := HYS.out
                      have hsum := HSUM.out
                      go_wp2_with fail
                      clear hys2 hsum
                      refine ⟨⟨j + 1, by omega, int_eq (by have := HXI.out; omega), by rw [HPV2.out]; exact HOWN, HX⟩, by have := HXI.out; simp [intOf]; omega⟩
                    · rw [hpc] at HVJ
                      have HPV2 : Hid (pre n k i (j + 1) = pre n k i j ++ [(xv, y)]) := by show _ = _; have h1 := HPV.out; have h2 := HVJ.out; rw [h2] at h1; simpa using h1
                      have hpl := HPJ.out
                      clear HPV HVJ
                      have hys2 := HYS.out
                      have hsum := HSUM.out
                      go_wp2_with (at_builtin; refine wpList_pushK rfl _ _ 51 rfl w1.heap.size 45 (.agg #[.int .i64 0, .int .i64 0]) 2 16 Try.infoPoint rfl (by decide) Try.underlying51 _ rfl _ _ HOWN.out [.int .i64 xv, .int .i64 (y : Nat)] rfl rfl (by simp [Value.oneCell']) (by clear hys2 hsum; omega) (by clear hys2 hsum; omega) HX.out.size ?_; intro s4 w4 hown4 hk4)
                      clear hys2 hsum
                      go_roundw
                      case rel =>
                        refine ⟨j + 1, by omega, int_eq (by have := HXI.out; omega), Lib.hid ?_, Lib.hid (Below.trans HX.out (hk4.below HX.out.size (fun k2 h2 => (HOWN.out.lt k2 h2).1)))⟩
                        rw [HPV2.out, pcells_snoc, List.length_append]
                        exact hown4
                      case measure => have := HXI.out; simp [intOf]; omega
                  · obtain rfl : j = 2 := by omega
                    have HPR : Hid (pre n k (i + 1) 0 = pre n k i 2) := pre_row n k i
                    go_wp2_with fail
                    refine ⟨⟨i + 1, by omega, by rw [Int.natCast_succ], by rw [HPR.out]; exact HOWN, HX⟩, by simp [intOf]; omega⟩
            · obtain rfl : i = s := by omega
              have HPC : Hid (pre n (k + 1) 0 0 = pre n k i 0) := HCOL.out k
              have hnot : (!(k % 2 == 0)) = ((k + 1) % 2 == 0) := by
                rcases Nat.mod_two_eq_zero_or_one k with h | h
                · rw [h, show (k + 1) % 2 = 1 by omega]; rfl
                · rw [h, show (k + 1) % 2 = 0 by omega]; rfl
              have HNT := Lib.hid hnot
              clear hnot
              go_wp2_with fail
              refine ⟨⟨k + 1, by omega, int_eq (by have := HNX.out; omega), by rw [← HNT.out], by rw [HPC.out]; exact HOWN, HX⟩, by simp [intOf]; omega⟩
      · have hkk2 : (s - 1) / 2 = k := by omega
        have HEND2 : Hid (PN = pre n k 0 0) := by have := HEND.out; rw [hkk2] at this; exact this.symm
        clear hkk2
        go_wp2_with fail
        go_ret2
        have h := HOWN.out
        rw [← HEND2.out] at h
        obtain ⟨ao, cap, hv, hl, hm, hp⟩ := Pts.own h
        rw [hv] at h ⊢
        exact ⟨ao, cap, rfl, hp, hl, hm, HX1.out.trans HX.out, fun a e => Nat.le_trans HX1.out.size (own_addr2 h e)⟩
  · rw [pathRes_2 hv]
    have HCE := Lib.hid (rcells_res v w)
    rw [cellsRes_2 hv] at HCE
    clear hv
    go_enter Try.func26, Try.ntmps26
    go_wp2_with fail
    refine HCE.out.mono ?_
    intro e w1 hret
    obtain ⟨b1, c1, rfl, hr1, hl1, hm1, _, hx1⟩ := hret.ints
    have HX1 := Lib.hid hx1
    clear hret hr1 hx1
    go_wp2_with fail
    go_ret2
    exact ⟨none, 0, rfl, fun i p hi => by simp at hi, Nat.le_refl _, by decide, HX1.out, fun a e => by cases e⟩

theorem rpath_res (v : Int) (w : World) : Calls Try.prog 26 #[.int .i64 v] w (RetPts w (pathRes v)) :=
  (rpath_own v w).mono fun _ _ ⟨ao, cap, h1, h2, h3, h4, h5, _⟩ => ⟨ao, cap, h1, h2, h3, h4, h5⟩

end Go.Proofs.Ytjkpdhcnklgfbaa
