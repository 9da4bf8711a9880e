/-
  The iterator of qrlayout's path: its contract.
  Conditions: the captured variables hold the layout and its cells; a round keeps them.
-/
import Derived.Test.YtjkpdhcnklgfbaaPathPlain
import Derived.Deep.DeepCutAuto
import Derived.RangeFuncNested
import Derived.RangeFuncBound
import Derived.RangeFuncCalls
import Derived.RangeFuncLeaves
import Derived.Shelf.Abstract
import Derived.Shelf.RegionOpen
import Derived.WalkKit
import Derived.OwnWalkIn
import Derived.TacticsInMore
import Derived.LoopNIn
import Derived.LoopIn
import Derived.Sort.CutIn
import Derived.Deep.RegionWith
namespace Go.Proofs.Ytjkpdhcnklgfbaa
open Go.RowKit Go.Bs Go.Qrv Go.Lay Go.Shelf

/-- The loop's variable ahead of the k-th way. -/
def rvZ' (s k : Nat) : Int := if 2 * k + 7 ≤ s then (s : Int) - 1 - 2 * k else (s : Int) - 2 - 2 * k

/-- What the iterator's captured variables hold. -/
structure Cap (W : World) (Bl Bc : Nat) (v s : Int) (ao : Option Addr) (m c : Nat) (bo : Option Addr) (Q cq : Nat) (C : List Int) : Prop where
  l0 : W.cell? ⟨Bl, 0, none⟩ = some (.int .i64 v)
  l1 : W.cell? ⟨Bl, 1, none⟩ = some (.int .i64 s)
  l2 : W.cell? ⟨Bl, 2, none⟩ = some (.slice ao m c)
  c0 : W.cell? ⟨Bc, 0, none⟩ = some (.slice bo Q cq)
  row : Row W bo (ints C)
theorem Cap.ext {W W' : World} {Bl Bc : Nat} {v s : Int} {ao : Option Addr} {m c : Nat} {bo : Option Addr} {Q cq : Nat} {C : List Int} (h : Cap W Bl Bc v s ao m c bo Q cq C) (hx : Ext W W') : Cap W' Bl Bc v s ao m c bo Q cq C :=
  ⟨hx.cell h.l0, hx.cell h.l1, hx.cell h.l2, hx.cell h.c0, h.row.ext hx⟩
theorem Ext.grownBy {w w' : World} (h : Ext w w') : w.grownBy w' none := ⟨h.os, h.tape, h.output, h.size, fun k hk _ => h.block k hk⟩

theorem box2 {w : World} {g : Nat} {u v : Value} (h : Row w (some ⟨g, 0, none⟩) [u, v]) : w.cell? ⟨g, 0, none⟩ = some u ∧ w.cell? ⟨g, 1, none⟩ = some v := by
  obtain ⟨a, ha, h0⟩ := h.at (i := 0) rfl
  obtain ⟨b, hb, h1⟩ := h.at (i := 1) rfl
  cases ha
  cases hb
  rw [add_zero_off] at h0 h1
  exact ⟨h0, h1⟩

attribute [local go_sem] Oper.semAt_some



set_option maxRecDepth 100000 in
set_option maxHeartbeats 4000000 in
theorem iter_in (nn : Nat) (hn : 1 ≤ nn) (lp Bl Bc n : Nat) (s : Nat) (ao : Option Addr) (m c : Nat) (bo : Option Addr) (Q cq : Nat) (C : List Int) (Kp : World → World → Prop) (J Jx : List (Nat × Nat) → World → Prop)
    (hKC : ∀ A B, Kp A B → Cap A Bl Bc n s ao m c bo Q cq C → Cap B Bl Bc n s ao m c bo Q cq C)
    (W : World) (hJ : ∀ p A B, J p A → Ext A B → J p B)
    (hY : ∀ pre x W, J pre W → pre ++ [x] <+: pathN n → YieldAt Fence.wide (nn - 1) Try.prog lp #[.agg #[.int .i64 ((x.1 : Nat) : Int), .int .i64 ((x.2 : Nat) : Int)]] W fun e W' =>
      (e = .returned (.bool true) ∧ J (pre ++ [x]) W' ∧ Kp W W') ∨ (e = .returned (.bool false) ∧ Jx (pre ++ [x]) W'))
    (hsb : 21 ≤ s ∧ s ≤ 177) (hodd : s % 2 = 1) (HQ : Hid (s * s = Q))
    (HCD : Hid (∀ x y, x < s → y < s → (ints C)[y * s + x]? = some (.int .i64 (pur n s (al n) x y))))
    (HV : Hid (∀ k i j, visit n k i j = if (pur n s (al n) ((rtN s k - j : Nat) : Int) ((yOf s k i : Nat) : Int) == 1) = true then [(rtN s k - j, yOf s k i)] else []))
    (HCOL : Hid (∀ k, pre n (k + 1) 0 0 = pre n k s 0)) (HEND : Hid (pre n ((s - 1) / 2) 0 0 = pathN n))
    (HPF : Hid (∀ k i j, 2 * k + 3 ≤ s → i < s → j < 2 → pre n k i (j + 1) <+: pathN n))
    (hC : Cap W Bl Bc n s ao m c bo Q cq C) (h0 : J [] W) :
    CallsIn Fence.wide nn Try.prog 81 #[.func (.yield lp) #[] #[], .pointer (some ⟨Bl, 0, none⟩), .pointer (some ⟨Bc, 0, none⟩)] W fun e W' => (∃ v, e = .returned v) ∧
      ((∃ ys, ys = pathN n ∧ J ys W') ∨ (∃ pre, pre <+: pathN n ∧ Jx pre W')) := by
  have HC0 := Lib.hid hC
  obtain ⟨z0, z1, z2, z3, hrow⟩ := hC
  refine callsIn_of_wp Try.func81 rfl trivial ?_ rfl
  simp only [Try.ntmps81, List.size_toArray, List.length_cons, List.length_nil, Nat.reduceAdd, Nat.reduceSub, Array.replicate_succ, Array.replicate_zero, List.push_toArray, List.append_toArray, List.nil_append, List.cons_append]
  gi_wp2
  gi_loopw [4, 5, 6, 7, 8, 9, 22, 23] (fun up rt _ _ _ _ _ _ wr => ∃ k : Nat, 2 * k + 1 ≤ s ∧ rt = .int .i64 (rvZ' s k) ∧ up = .bool (k % 2 == 0) ∧ J (pre n k 0 0) wr ∧ Cap wr Bl Bc n s ao m c bo Q cq C) (fun _ rt _ _ _ _ _ _ _ => (intOf rt + 1).toNat)
  case atStart => exact ⟨0, by omega, int_eq (by unfold rvZ'; rw [if_pos (by omega)]; omega), rfl, h0, HC0.out⟩
  case round =>
    obtain ⟨k, hk, rfl, rfl, hj0, hc0⟩ := hrel
    have HJO := Lib.hid hj0
    have HCO := Lib.hid hc0
    clear hj0 hc0 z0 z1 z2 z3 hrow h0 HC0
    obtain ⟨rv, hrv⟩ : ∃ rv, rv = rvZ' s k := ⟨_, rfl⟩
    have hrv2 : (((rv = rtN s k ∧ rtN s k ≠ 6) ∨ (rv = 6 ∧ rtN s k = 5)) ∧ rtN s k ≠ 6 ∧ 1 ≤ rtN s k ∧ rtN s k + 1 ≤ s ∧ (rtN s k : Int) - 2 = rvZ' s (k + 1) ∧ 2 * k + 3 ≤ s ∧ (rtN s k : Int) ≤ rv) ∨ (2 * k + 1 = s ∧ rv = -1) := by
      rw [hrv]
      unfold rvZ' rtN
      split <;> split <;> split <;> omega
    rw [← hrv]
    clear hrv
    obtain ⟨rt, hrt⟩ : ∃ rt, rtN s k = rt := ⟨_, rfl⟩
    rw [hrt] at hrv2
    have HRT := Lib.hid hrt
    clear hrt
    rcases hrv2 with ⟨c1, c2, c3, c4, c5, c7, c8⟩ | ⟨c1, rfl⟩
    · have HNX := Lib.hid c5
      clear c5
      have hpos : 0 < rv := by rcases c1 with ⟨h, _⟩ | ⟨h, _⟩ <;> omega
      obtain ⟨z0, z1, z2, z3, _⟩ := HCO.out
      gi_upto_if 18 with fail
      gi_cut [5] from 13 (fun rr wx => rr = .int .i64 (rt : Int) ∧ wx = wr)
      case first =>
        rcases c1 with ⟨rfl, c6⟩ | ⟨rfl, c6⟩
        · have e6 : ((rt : Int) == 6) = false := by simp; omega
          gi_wp2
          gi_meet
          exact ⟨rfl, rfl⟩
        · gi_wp2
          gi_meet
          exact ⟨int_eq (by omega), rfl⟩
      case rest =>
        obtain ⟨rfl, rfl⟩ := hcut
        clear c1 hpos
        skip
        gi_wp2
        gi_loopw [6, 7, 8, 9, 23] (fun _ _ _ _ ii wr => ∃ i : Nat, i ≤ s ∧ ii = .int .i64 i ∧ Hid (J (pre n k i 0) wr) ∧ Hid (Cap wr Bl Bc n s ao m c bo Q cq C)) (fun _ _ _ _ ii _ => s - (intOf ii).toNat)
        case atStart => exact ⟨0, Nat.zero_le _, rfl, HJO, HCO⟩
        case round =>
          clear HJO HCO z0 z1 z2 z3
          obtain ⟨i, hi, rfl, HJI, HCI⟩ := hrel
          obtain ⟨z0, z1, z2, z3, _⟩ := HCI.out
          by_cases hlti : i < s
          · have hyb : yOf s k i < s := by unfold yOf; split <;> omega
            have hyv : (k % 2 = 0 ∧ yOf s k i = s - 1 - i) ∨ (k % 2 ≠ 0 ∧ yOf s k i = i) := by unfold yOf; split <;> simp_all
            have HVS := fun (j : Nat) => Lib.hid (HV.out k i j)
            have HCY := fun (x : Nat) (hx : x < s) => Lib.hid (HCD.out x (yOf s k i) hx hyb)
            have hix : ∀ x, x < s → yOf s k i * s + x < Q := fun x hx => by
              have h1 : (yOf s k i + 1) * s ≤ s * s := Nat.mul_le_mul_right s hyb
              have h2 := HQ.out
              rw [Nat.add_mul] at h1
              omega
            have HIX := Lib.hid hix
            clear hix
            obtain ⟨y, hy⟩ : ∃ y, y = yOf s k i := ⟨_, rfl⟩
            rw [← hy] at hyb hyv HVS HCY HIX
            have HYY := Lib.hid hy
            clear hy
            gi_upto_if 27 with fail
            gi_cut [7, 57, 58] from 24 (fun yy p57 p58 wx => yy = .int .i64 (y : Int) ∧ p57 = u57 ∧ p58 = u58 ∧ wx = wr)
            case first =>
              rcases hyv with ⟨hk2, hyv⟩ | ⟨hk2, hyv⟩
              · have hup : (k % 2 == 0) = true := by simp [hk2]
                have hyI : (s : Int) - 1 - (i : Int) = (y : Int) := by omega
                clear hyv
                gi_wp2
                gi_meet
                exact ⟨rfl, rfl, rfl, rfl⟩
              · have hup : (k % 2 == 0) = false := by simp [hk2]
                subst hyv
                gi_wp2
                gi_meet
                exact ⟨rfl, rfl, rfl, rfl⟩
            case rest =>
              obtain ⟨rfl, rfl, rfl, rfl⟩ := hcut
              clear hyv HYY
              skip
              gi_wp2
              gi_loopw [8, 9] (fun xx _ wr => ∃ j : Nat, j ≤ 2 ∧ xx = .int .i64 ((rt : Int) - (j : Int)) ∧ Hid (J (pre n k i j) wr) ∧ Hid (Cap wr Bl Bc n s ao m c bo Q cq C)) (fun xx _ _ => (intOf xx - ((rt : Int) - 2)).toNat)
              case atStart => exact ⟨0, by omega, int_eq (by omega), HJI, HCI⟩
              case round =>
                clear HJI HCI
                obtain ⟨j, hj, rfl, HJI, HCI⟩ := hrel
                by_cases hltj : j < 2
                · have HVJ := HVS j
                  have HPV := Lib.hid (pre_visit n k i j)
                  obtain ⟨xv, hxv⟩ : ∃ xv, xv = rt - j := ⟨_, rfl⟩
                  have hxI : (rt : Int) - (j : Int) = (xv : Int) := by omega
                  have hxs : xv < s := by omega
                  have HXI := Lib.hid hxI
                  have hx1 : (rt : Int) - 1 ≤ (xv : Int) := by omega
                  rw [hxI]
                  rw [HRT.out, ← hxv] at HVJ
                  clear hxv hxI
                  have HCJ := HCY xv hxs
                  have hixx := HIX.out xv hxs
                  obtain ⟨zi, hzi⟩ : ∃ zi, zi = y * s + xv := ⟨_, rfl⟩
                  have HZI : Hid ((y : Int) * (s : Int) + (xv : Int) = (zi : Int)) := by rw [hzi]; show _ = _; rw [Int.natCast_add, Int.natCast_mul]
                  rw [← hzi] at hixx HCJ
                  clear hzi
                  obtain ⟨PC, hPC⟩ : ∃ PC, PC = pur n s (al n) xv (y : Nat) := ⟨_, rfl⟩
                  rw [← hPC] at HVJ HCJ
                  clear hPC
                  obtain ⟨z0, z1, z2, z3, hrow⟩ := HCI.out
                  obtain ⟨ad, rfl, _⟩ := hrow.at HCJ.out
                  have hy177 : (0 : Int) ≤ (y : Int) ∧ (y : Int) ≤ 1000 := by omega
                  have hxv177 : (0 : Int) ≤ (xv : Int) ∧ (xv : Int) ≤ 1000 := by omega
                  clear hrow
                  have HIA := fun (W : World) => Lib.hid (index_any n s xv y ao m c W (by omega) hxv177 hy177)
                  rw [HZI.out] at HIA
                  unfold layV at HIA
                  have hcap0 : Cap ((wr.alloc (.cells #[.int .i64 xv, .int .i64 y] 45)).drew) Bl Bc n s ao m c (some ad) Q cq C := HCI.out.ext ((Ext.alloc _ _).trans (Ext.drew _))
                  have hpt : Row ((wr.alloc (.cells #[.int .i64 xv, .int .i64 y] 45)).drew) (some ⟨wr.heap.size, 0, none⟩) [.int .i64 xv, .int .i64 y] := (Row.lit wr [.int .i64 xv, .int .i64 y] 45).ext (Ext.drew _)
                  have HJ3 := fun (w3 : World) (h : Ext ((wr.alloc (.cells #[.int .i64 xv, .int .i64 y] 45)).drew) w3) => hJ _ _ _ HJI.out (((Ext.alloc _ _).trans (Ext.drew _)).trans h)
                  have HPT := Lib.hid hpt
                  have HCAP := Lib.hid hcap0
                  clear hpt z0 z1 z2 z3
                  obtain ⟨d0, d1, d2, d3, _⟩ := hcap0
                  have p0 := (box2 HPT.out).1
                  have p1 := (box2 HPT.out).2
                  have hmx : Try.prog.follows .mixedOrders = true := by kernel_rfl
                  cases hpc : PC == 1
                  · rw [hpc] at HVJ
                    have HPV2 : Hid (pre n k i (j + 1) = pre n k i j) := by show _ = _; have h1 := HPV.out; have h2 := HVJ.out; rw [h2] at h1; simpa using h1
                    clear HPV HVJ
                    gi_upto_region 16 with fail
                    refine wpIn_wide.2 ?_
                    first | (go_region_with (go_at_call 62; refine (HIA _).out.mono ?_; rintro e w3 ⟨rfl, hx3⟩; obtain ⟨e0, e1, e2, e3, erow⟩ := HCAP.out.ext hx3; obtain ⟨ad', had, hca⟩ := erow.at HCJ.out; obtain rfl : ad = ad' := Option.some.inj had)) | fail "region"
                    all_goals
                      gi_wp2
                      go_roundw
                      case rel => exact ⟨j + 1, by omega, int_eq (by have := HXI.out; omega), by rw [HPV2.out]; exact HJ3 w3 hx3, HCAP.out.ext hx3⟩
                      case measure => have := HXI.out; simp [intOf]; omega
                  · rw [hpc] at HVJ
                    have HPV2 : Hid (pre n k i (j + 1) = pre n k i j ++ [(xv, y)]) := by show _ = _; have h1 := HPV.out; have h2 := HVJ.out; rw [h2] at h1; simpa using h1
                    have hpfx : pre n k i j ++ [(xv, y)] <+: pathN n := by have := HPF.out k i j c7 hlti hltj; rw [HPV2.out] at this; exact this
                    have hrounds := fun (w3 : World) (hj3 : J (pre n k i j) w3) => hY (pre n k i j) (xv, y) w3 hj3 hpfx
                    clear hpfx
                    clear HPV HVJ
                    gi_upto_region 16 with fail
                    gi_region_with (first
                      | (refine ⟨trivial, ?_⟩; gi_at_call 62; refine (callsIn_wide.2 (HIA _).out).mono ?_; rintro e w3 ⟨rfl, hx3⟩; have q0 := (box2 (HPT.out.ext hx3)).1; have q1 := (box2 (HPT.out.ext hx3)).2; obtain ⟨e0, e1, e2, e3, erow⟩ := HCAP.out.ext hx3; obtain ⟨ad', had, hca⟩ := erow.at HCJ.out; obtain rfl : ad = ad' := Option.some.inj had; obtain ⟨fy, ty, ay, by', hy, hR⟩ := hrounds w3 (HJ3 w3 hx3); dsimp only at hy)
                      | (refine hR.mono ?_; rintro e W4 hor; obtain ⟨bb, rfl, hbb⟩ : ∃ bb, e = .returned (.bool bb) ∧ ((bb = true ∧ J (pre n k i j ++ [(xv, y)]) W4 ∧ Kp w3 W4) ∨ (bb = false ∧ Jx (pre n k i j ++ [(xv, y)]) W4)) := hor.elim (fun h => ⟨true, h.1, .inl ⟨rfl, h.2⟩⟩) (fun h => ⟨false, h.1, .inr ⟨rfl, h.2⟩⟩)))
                    all_goals
                      rcases hbb with ⟨rfl, hj4, hk4⟩ | ⟨rfl, hj4⟩
                      · gi_wp2
                        go_roundw
                        case rel => exact ⟨j + 1, by omega, int_eq (by have := HXI.out; omega), by rw [HPV2.out]; exact hj4, hKC _ _ hk4 (HCAP.out.ext hx3)⟩
                        case measure => have := HXI.out; simp [intOf]; omega
                      · gi_wp2
                        refine bodyPost_ret (results_none rfl _ _ _) rfl ?_
                        exact ⟨⟨_, rfl⟩, .inr ⟨_, by have := HPF.out k i j c7 hlti hltj; rw [HPV2.out] at this; exact this, hj4⟩⟩
                · obtain rfl : j = 2 := by omega
                  have HPR : Hid (pre n k (i + 1) 0 = pre n k i 2) := pre_row n k i
                  gi_wp2
                  go_roundw
                  case rel => exact ⟨i + 1, by omega, by rw [Int.natCast_succ], by rw [HPR.out]; exact HJI, HCI⟩
                  case measure => simp [intOf]; omega
          · obtain rfl : i = s := by omega
            have HPC : Hid (pre n (k + 1) 0 0 = pre n k i 0) := HCOL.out k
            have hnot : (!(k % 2 == 0)) = ((k + 1) % 2 == 0) := by
              rcases Nat.mod_two_eq_zero_or_one k with h | h
              · rw [h, show (k + 1) % 2 = 1 by omega]; rfl
              · rw [h, show (k + 1) % 2 = 0 by omega]; rfl
            have HNT := Lib.hid hnot
            clear hnot
            gi_wp2
            go_roundw
            case rel => exact ⟨k + 1, by omega, int_eq (by have := HNX.out; omega), by rw [← HNT.out], by rw [HPC.out]; exact HJI.out, HCI.out⟩
            case measure => simp [intOf]; omega
    · have hkk2 : (s - 1) / 2 = k := by omega
      have HEND2 : Hid (pathN n = pre n k 0 0) := by have := HEND.out; rw [hkk2] at this; exact this.symm
      clear hkk2
      obtain ⟨z0, z1, z2, z3, _⟩ := HCO.out
      gi_wp2
      go_end0
      exact ⟨⟨_, rfl⟩, .inl ⟨_, rfl, by rw [HEND2.out]; exact HJO.out⟩⟩

end Go.Proofs.Ytjkpdhcnklgfbaa
