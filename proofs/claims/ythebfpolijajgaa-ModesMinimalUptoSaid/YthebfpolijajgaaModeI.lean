/-
  The contract of modes.Encode.
  Conditions: the slice's cells are those of the list.
-/
import Derived.Test.YthebfpolijajgaaModeG
namespace Go.Proofs.Ythebfpolijajgaa
open Go.RowKit Go.Bs Go.Mode

theorem bits_inv {l : List SegD} {c T : Int} (h : bitsRes l c = (T, 0)) : ∃ k : Nat, c = k ∧ k ≤ 2 ∧ (l.all fun p => okMode p.1) = true ∧ l.length ≤ 4096 ∧ (l.all fun p => decide (p.2.length < 2 ^ cntB p.1 k)) = true ∧ (l.all fun p => p.2.all (fitsB p.1)) = true ∧ total k l ≤ 1048576 ∧ T = total k l := by
  unfold bitsRes at h
  split at h
  · cases h
  · rename_i h0
    obtain ⟨k, rfl⟩ := Int.eq_ofNat_of_zero_le (show 0 ≤ c by omega)
    split at h
    · cases h
    · split at h
      · cases h
      · split at h
        · cases h
        · split at h
          · cases h
          · split at h
            · cases h
            · simp only [Int.toNat_natCast, Bool.not_eq_false] at *
              simp only [Prod.mk.injEq, and_true] at h
              exact ⟨k, rfl, by omega, by assumption, by omega, by assumption, by assumption, by omega, h.symm⟩

def fullI (m : Int) : Int := if m = 1 then 10 else if m = 2 then 11 else 8
def part1 (m : Int) : Int := if m = 1 then 4 else if m = 2 then 6 else 0
def part2 (m : Int) : Int := if m = 1 then 7 else 0
theorem packA_eq (m : Int) : packA m = #[.int .i64 (unitN m), .int .i64 (baseI m), .int .i64 (fullI m), .int .i64 0, .int .i64 (part1 m), .int .i64 (part2 m)] := by
  unfold packA unitN baseI fullI part1 part2
  split
  · rfl
  · split <;> rfl

theorem total_append (k : Nat) (l m : List SegD) : total k l ≤ total k (l ++ m) := by
  induction m generalizing l with
  | nil => simp
  | cons x m ih => have := ih (l ++ [x]); rw [total_snoc, List.append_assoc] at this; simp only [List.singleton_append] at this; omega
theorem total_mono (k : Nat) (l : List SegD) (j : Nat) : total k (l.take j) ≤ total k l := by
  have := total_append k (l.take j) (l.drop j)
  rwa [List.take_append_drop] at this

theorem valueI_bd (m : Int) (c : UInt8) : -1 ≤ valueI m c ∧ valueI m c ≤ 255 := by
  unfold valueI
  have h1 := placeI_bd c
  have h2 : c.toNat < 256 := c.toNat_lt
  split <;> omega
theorem baseI_bd (m : Int) : 1 ≤ baseI m ∧ baseI m ≤ 256 := by unfold baseI; split <;> (try split) <;> omega
theorem gval_snoc (m : Int) (g : List UInt8) (c : UInt8) : gval m (g ++ [c]) = gval m g * baseI m + valueI m c := by unfold gval; rw [List.foldl_append]; rfl
theorem mul_bd (x b y : Int) (k : Nat) (hx : -(k : Int) < x) (hx' : x < k) (hb : 1 ≤ b) (hb' : b ≤ 256) (hy : -1 ≤ y) (hy' : y ≤ 255) : -((256 * k : Nat) : Int) < x * b ∧ x * b < ((256 * k : Nat) : Int) ∧ -((256 * k : Nat) : Int) < x * b + y ∧ x * b + y < ((256 * k : Nat) : Int) := by
  have h1 : x * b ≤ (k - 1) * 256 := by
    rcases Int.le_total 0 x with h | h
    · exact Int.le_trans (Int.mul_le_mul_of_nonneg_left hb' h) (Int.mul_le_mul_of_nonneg_right (by omega) (by decide))
    · have : x * b ≤ 0 := Int.mul_nonpos_of_nonpos_of_nonneg h (by omega)
      omega
  have h2 : -((k - 1) * 256) ≤ x * b := by
    rcases Int.le_total 0 x with h | h
    · have : 0 ≤ x * b := Int.mul_nonneg h (by omega)
      omega
    · have e : x * b = -(-x * b) := by rw [Int.neg_mul, Int.neg_neg]
      have : -x * b ≤ (k - 1) * 256 := Int.le_trans (Int.mul_le_mul_of_nonneg_left hb' (by omega)) (Int.mul_le_mul_of_nonneg_right (by omega) (by decide))
      omega
  omega
theorem gval_bd (m : Int) (g : List UInt8) : -((256 ^ g.length : Nat) : Int) < gval m g ∧ gval m g < ((256 ^ g.length : Nat) : Int) := by
  have key : ∀ (n : Nat) (g : List UInt8), g.length = n → -((256 ^ n : Nat) : Int) < gval m g ∧ gval m g < ((256 ^ n : Nat) : Int) := by
    intro n
    induction n with
    | zero => intro g hg; rw [List.eq_nil_of_length_eq_zero hg]; simp [gval]
    | succ n ih =>
      intro g hg
      have hne : g ≠ [] := by intro e; subst e; simp at hg
      have e := List.dropLast_concat_getLast hne
      have h1 := ih g.dropLast (by simp; omega)
      rw [← e, gval_snoc]
      have hv := valueI_bd m (g.getLast hne)
      have hb := baseI_bd m
      have := mul_bd _ _ _ _ h1.1 h1.2 hb.1 hb.2 hv.1 hv.2
      rw [Nat.pow_succ, Nat.mul_comm]
      omega
  exact key _ g rfl

theorem dsize_unit (m : Int) (n : Nat) (hm : okMode m = true) (hn : n ≤ unitN m) : dsize m n ≤ 11 := by
  unfold okMode at hm
  simp only [Bool.or_eq_true, beq_iff_eq] at hm
  rcases hm with (rfl | rfl) | rfl <;> simp [dsize, unitN] at hn ⊢ <;> (try split) <;> (try split) <;> omega

theorem fst_all {l : List SegD} {q : SegD → Bool} (h : l.all q = true) (i : Nat) (hi : i < l.length) : q l[i] = true := (List.all_eq_true.1 h) _ (List.getElem_mem hi)

theorem quiet_same {P : Program} {f : FuncId} {args : Array Value} {w : World} {n : Nat} {v : Value}
    (h : Calls P f args (w.drewN n) fun e w' => e = .returned v ∧ w.drewN n = w') : Calls P f args (w.drewN n) fun e w'' => e = .returned v ∧ ∃ m, w'' = w.drewN m :=
  h.mono fun _ _ ⟨he, hm⟩ => ⟨he, n, hm.symm⟩

set_option maxRecDepth 20000 in
set_option maxHeartbeats 1600000 in
theorem encode_any (ao : Option Addr) (len cap : Nat) (l : List SegD) (c : Int) (w : World) (hl : l.length = len) (hc : len ≤ cap) (hm : cap ≤ 9223372036854775807) (hr : Segs w ao l) :
    Calls Try.prog 29 #[.slice ao len cap, .int .i64 c] w (RetSl w (bools (encRes l c).1, (encRes l c).2)) := by
  have HBI := Lib.hid (bits_any ao len cap l c w hl hc hm hr)
  obtain ⟨T, E, hTE⟩ : ∃ T E, bitsRes l c = (T, E) := ⟨_, _, rfl⟩
  by_cases hE : E = 0
  case neg =>
    rw [show encRes l c = ([], E) from by unfold encRes; rw [hTE, if_neg hE]]
    have hne : (E != 0) = true := by simp [hE]
    have HTE := Lib.hid hTE
    clear hTE hE hl
    go_enter Try.func29, Try.ntmps29
    go_wp2_with fail
    refine HBI.out.mono ?_
    rw [HTE.out]
    rintro e w1 ⟨rfl, hx1⟩
    simp only [two]
    go_wp2_with fail
    go_ret2
    exact RetSl.nil _ _ _ hx1
  case pos =>
    subst hE
    obtain ⟨k, rfl, hk, hok, h4, hlen, hfit, htot, rfl⟩ := bits_inv hTE
    rw [show encRes l k = (l.flatMap (encS k), 0) from by unfold encRes; rw [hTE, if_pos rfl]; rfl]
    have HTE := Lib.hid hTE
    have HOK := Lib.hid hok
    have HLEN := Lib.hid hlen
    have HFIT := Lib.hid hfit
    have HL := Lib.hid hl
    have hle : l.length ≤ len := by omega
    have hge : len ≤ l.length := by omega
    have h4' : len ≤ 4096 := by omega
    clear hTE hok hlen hfit hl
    obtain ⟨T, hT⟩ : ∃ T, T = total k l := ⟨_, rfl⟩
    rw [← hT] at htot HTE
    have HT := Lib.hid hT
    clear hT h4
    go_enter Try.func29, Try.ntmps29
    go_wp2_with fail
    refine HBI.out.mono ?_
    rw [HTE.out]
    rintro e w1 ⟨rfl, hx1⟩
    simp only [two]
    go_wp2_with (at_make; refine wpList_make (ws := w) rfl _ _ 40 rfl w.heap.size 4 (.bool false) 1 Try.infoBool rfl Try.underlying40 _ _ _ _ rfl rfl 0 T rfl rfl (Nat.zero_le _) (by omega) (by omega) hx1 hx1.size ?_; intro w2 hown2 hbel2 _)
    go_loopw [8, 10, 11, 12, 13, 14, 15, 16, 18, 32] (fun b _ _ _ _ _ _ _ _ i wr => ∃ j n : Nat, j ≤ len ∧ i = .int .i64 j ∧ n ≤ 1048576 ∧ Hid (n = total k (l.take j)) ∧ wr.ownsRow w.heap.size 4 1 b n (bools ((l.take j).flatMap (encS k))) ∧ Hid (Keep w (.slice none 0 0) wr b)) (fun _ _ _ _ _ _ _ _ _ i _ => len - (intOf i).toNat)
    case atStart => exact ⟨0, 0, Nat.zero_le _, rfl, by omega, rfl, by simpa [bools] using hown2, Keep.made hbel2 (fun k hk => (hown2.lt k hk).1)⟩
    case round =>
      clear hown2 hbel2 hx1 HTE
      obtain ⟨j, n, hj, rfl, hn, HN, hown, HKP⟩ := hrel
      have hext := HKP.out.toExt rfl
      have HEXT := Lib.hid hext
      by_cases hlt : j < len
      · obtain ⟨b0, off, v0, rfl, hc0, hc1, hbs⟩ := (hr.ext hext) j (l[j]'(by omega)) (List.getElem?_eq_getElem (by omega))
        obtain ⟨_, _, v0', hao, _, hc1', hbs'⟩ := hr j (l[j]'(by omega)) (List.getElem?_eq_getElem (by omega))
        have hvv : v0' = v0 := by
          cases hao
          have := hext.cell hc1'
          rw [hc1] at this
          exact (Option.some.inj this).symm
        subst hvv
        clear hao hc1' hbs
        have hmo : okMode (l[j]'(by omega)).1 = true := fst_all (q := fun p => okMode p.1) HOK.out j (by omega)
        have hdl : (l[j]'(by omega)).2.length < 2 ^ cntB (l[j]'(by omega)).1 k := by simpa using fst_all HLEN.out j (by omega)
        have hdf : (l[j]'(by omega)).2.all (fitsB (l[j]'(by omega)).1) = true := fst_all (q := fun p => p.2.all (fitsB p.1)) HFIT.out j (by omega)
        have HFM := Lib.hid (show (l.take (j + 1)).flatMap (encS k) = (l.take j).flatMap (encS k) ++ encS k (l[j]'(by omega)) from by rw [List.take_succ_eq_append_getElem (by omega), List.flatMap_append, List.flatMap_cons, List.flatMap_nil, List.append_nil])
        have HTT := Lib.hid (total_take k l j (by omega))
        rw [← HN.out] at HTT
        have hTle : total k (l.take (j + 1)) ≤ T := by rw [HT.out]; exact total_mono k l (j + 1)
        have HTL := Lib.hid hTle
        obtain ⟨acc, hacc⟩ : ∃ acc, acc = (l.take j).flatMap (encS k) := ⟨_, rfl⟩
        rw [← hacc] at hown HFM
        obtain ⟨pr, hpr⟩ : ∃ pr, pr = (l[j]'(by omega)) := ⟨_, rfl⟩
        rw [← hpr] at hc0 hbs' hmo hdl hdf HFM HTT
        clear hpr hacc hTle
        obtain ⟨m, d⟩ := pr
        simp only at hc0 hbs' hmo hdl hdf HFM HTT
        obtain ⟨bo, bc, rfl, hbr, hbl, hbm, hbn⟩ := hbs'
        have hcb := cntB_bd m k hk
        have hpw := (pow_cnt (cntB m k) hcb.2).2
        have hd65 : d.length < 65536 := by omega
        have HC := Lib.hid (ctRes_ok m k hmo hk)
        have HMO := Lib.hid hmo
        have HDF := Lib.hid hdf
        clear hmo hdf hdl hpw
        obtain ⟨C, hC⟩ : ∃ C, C = cntB m k := ⟨_, rfl⟩
        rw [← hC] at HC hcb
        have HCC := Lib.hid hC
        clear hC hext
        go_wp2_with fail
        refine (countBits_any _ _ _).mono ?_
        rw [HC.out]
        rintro e w' ⟨rfl, rfl⟩
        simp only [two]
        go_wp2_with fail
        refine (put_any w.heap.size _ n acc m 4 _ (by omega) (by omega) (own_extN hown (Ext.alloc _ _)) (Nat.le_trans HEXT.out.size (Ext.alloc _ _).size)).mono ?_
        rintro e w3 ⟨b3, rfl, hown3, hk3⟩
        have hsz : wr.heap.size < (wr.alloc (.cells #[.int .i64 m, .slice bo d.length bc] 33)).heap.size := by simp
        have z0 : w3.cell? ⟨wr.heap.size, 0, none⟩ = some (.int .i64 m) := hk3.cell (by simp) (own_lt hown (Nat.le_refl _))
        have z1 : w3.cell? ⟨wr.heap.size, 1, none⟩ = some (.slice bo d.length bc) := hk3.cell (by simp) (own_lt hown (Nat.le_refl _))
        have ho3 : b3.ownBlock ≠ some wr.heap.size := hk3.away hsz (own_lt hown (Nat.le_refl _))
        have hk3' := HKP.out.trans ((Keep.ofExt (Ext.alloc wr (.cells #[.int .i64 m, .slice bo d.length bc] 33)) u8).trans hk3)
        have HK3 := Lib.hid hk3'
        have HO3 := Lib.hid ho3
        have hs3 : wr.heap.size < w3.heap.size := Nat.lt_of_lt_of_le hsz hk3.size
        have hB3 : w.heap.size ≤ w3.heap.size := hk3'.size
        clear hc0 hc1 hown hk3 hk3' ho3 hsz HKP HEXT
        obtain ⟨g, hg⟩ : ∃ g, g = wr.heap.size := ⟨_, rfl⟩
        rw [← hg] at z0 z1 HO3 hs3 ⊢
        clear hg
        go_wp2_with fail
        refine (put_any w.heap.size _ (n + 4) _ d.length C _ (by omega) (by omega) hown3 hB3).mono ?_
        rintro e w4 ⟨b4, rfl, hown4, hk4⟩
        have z0b := hk4.cell z0 HO3.out
        have z1b := hk4.cell z1 HO3.out
        have HO4 := Lib.hid (hk4.away hs3 HO3.out)
        have HK4 := Lib.hid (HK3.out.trans hk4)
        have hs4 : g < w4.heap.size := Nat.lt_of_lt_of_le hs3 hk4.size
        have hB4 : w.heap.size ≤ w4.heap.size := Nat.le_trans hB3 hk4.size
        have HOG4 := HO4
        clear z0 z1 HO3 HK3 hs3 hB3 hk4 hown3
        go_wp2_with fail
        refine (packed_any m _ HMO.out).mono ?_
        rw [packA_eq]
        rintro e w5 ⟨rfl, hx5⟩
        have z0 := hx5.cell z0b
        have z1 := hx5.cell z1b
        have HK5 := Lib.hid (HK4.out.ext hx5)
        have hown5 := own_extN hown4 hx5
        have hs5 : g < w5.heap.size := Nat.lt_of_lt_of_le hs4 hx5.size
        have hB5 : w.heap.size ≤ w5.heap.size := Nat.le_trans hB4 hx5.size
        clear z0b z1b HK4 hx5 hown4 hs4 hB4
        go_wp2_with fail
        obtain ⟨wI, hwI⟩ : ∃ wI : World, wI = w5.alloc (.cells #[.int .i64 (unitN m), .int .i64 (baseI m), .int .i64 (fullI m), .int .i64 0, .int .i64 (part1 m), .int .i64 (part2 m)] 76) := ⟨_, rfl⟩
        rw [← hwI]
        have HPR : Hid (Row wI (some ⟨w5.heap.size, 0, none⟩) (packA m).toList) := by rw [packA_eq, hwI]; exact Row.lit _ _ _
        have hxI : Ext w5 wI := by rw [hwI]; exact Ext.alloc _ _
        have hsI : w5.heap.size < wI.heap.size := by rw [hwI]; simp
        have HOG : Hid (b4.ownBlock ≠ some w5.heap.size) := own_lt hown5 (Nat.le_refl _)
        have HOW := Lib.hid (own_extN hown5 hxI)
        have Z0 := Lib.hid (hxI.cell z0)
        have Z1 := Lib.hid (hxI.cell z1)
        have HKI := Lib.hid (HK5.out.ext hxI)
        have hgI : g < wI.heap.size := Nat.lt_of_lt_of_le hs5 hxI.size
        have hBI : w.heap.size ≤ wI.heap.size := Nat.le_trans hB5 hxI.size
        clear hwI hxI hown5 z0 z1 HK5 hs5 hB5
        obtain ⟨h, hh⟩ : ∃ h, h = w5.heap.size := ⟨_, rfl⟩
        rw [← hh] at HPR hsI HOG ⊢
        clear hh
        have hun := unit_pos m
        have hun3 : unitN m ≤ 3 := by unfold unitN; split <;> (try split) <;> omega
        have HLD := Lib.hid (length_encD m HMO.out d.length d rfl)
        have hroom : n + 4 + C + dsize m d.length ≤ 1048576 := by
          have h1 := HTT.out
          have h2 := HTL.out
          have h3 : segB m k d.length = 4 + cntB m k + dsize m d.length := rfl
          rw [← HCC.out] at h3
          omega
        obtain ⟨D, hD⟩ : ∃ D, D = dsize m d.length := ⟨_, rfl⟩
        rw [← hD] at hroom HLD
        clear hD
        obtain ⟨U, hU⟩ : ∃ U, U = unitN m := ⟨_, rfl⟩
        have HU := Lib.hid hU
        rw [← hU] at hun hun3
        have HP0 : Hid (wI.cell? ⟨h, 0, none⟩ = some (.int .i64 U)) := by
          obtain ⟨a', ha', hc'⟩ := HPR.out.at (i := 0) (v := .int .i64 U) (by rw [packA_eq, hU]; rfl)
          cases ha'
          exact hc'
        have HP1 : Hid (wI.cell? ⟨h, 1, none⟩ = some (.int .i64 (baseI m))) := by
          obtain ⟨a', ha', hc'⟩ := HPR.out.at (i := 1) (v := .int .i64 (baseI m)) (by rw [packA_eq]; rfl)
          cases ha'
          exact hc'
        clear hU
        obtain ⟨acc2, hacc2⟩ : ∃ acc2, acc2 = acc ++ lowBits m 4 ++ lowBits (d.length : Int) C := ⟨_, rfl⟩
        rw [← hacc2] at HOW
        have HAC := Lib.hid hacc2
        clear hacc2
        go_loopw [8, 14, 15, 16, 18] (fun b rs _ _ _ wy => ∃ (p : Nat) (E : List Bool) (ro : Option Addr) (rc : Nat), p ≤ d.length ∧ rs = .slice ro (d.length - p) rc ∧ d.length - p ≤ rc ∧ rc ≤ 9223372036854775807 ∧ Hid (Row w ro (byts (d.drop p))) ∧ E.length ≤ D ∧ Hid (E ++ encD m (d.drop p) = encD m d) ∧ wy.ownsRow w.heap.size 4 1 b (n + 4 + C + E.length) (bools (acc2 ++ E)) ∧ Hid (Keep wI b4 wy b)) (fun _ rs _ _ _ _ => slLen rs)
        case atStart => exact ⟨0, [], bo, bc, Nat.zero_le _, rfl, by omega, by omega, hbr, Nat.zero_le _, rfl, by simpa using HOW.out, Keep.refl _ _⟩
        case round =>
          obtain ⟨p, E, ro, rc, hp, rfl, hrc, hrm, HRO, hEl, HE, hown, HKY⟩ := hrel
          by_cases hpd : p < d.length
          · have z0 := HKY.out.cell Z0.out HOG4.out
            have p0 := HKY.out.cell HP0.out HOG.out
            obtain ⟨q, hq⟩ : ∃ q, q = d.length - p := ⟨_, rfl⟩
            rw [← hq] at hrc ⊢
            have hq1 : 0 < q := by omega
            have HQ := Lib.hid hq
            clear hq
            obtain ⟨N, hN⟩ : ∃ N : Nat, N = min q U := ⟨_, rfl⟩
            have hmin : min (q : Int) (U : Int) = (N : Int) := by omega
            have HNM := Lib.hid hN
            have hNq : N ≤ q := by omega
            have hN3 : N ≤ 3 := by omega
            have hN1 : 1 ≤ N := by omega
            clear hN
            have HROW := Lib.hid (HRO.out.ext (HKI.out.trans HKY.out |>.toExt rfl))
            obtain ⟨G, hG⟩ : ∃ G, G = (d.drop p).take N := ⟨_, rfl⟩
            have hGl : G.length = N := by rw [hG]; simp; have := HQ.out; omega
            have HGL := Lib.hid hGl
            have HG := Lib.hid hG
            clear hG hGl
            go_wp2_with fail
            go_loopw [16, 18, 70] (fun v _ i wz => ∃ t : Nat, t ≤ N ∧ i = .int .i64 t ∧ v = .int .i64 (gval m (G.take t)) ∧ Ext wr wz) (fun _ _ i _ => N - (intOf i).toNat)
            case atStart => exact ⟨0, Nat.zero_le _, rfl, rfl, Ext.refl _⟩
            case round =>
              obtain ⟨t, ht, rfl, rfl, hxz⟩ := hrel
              by_cases htN : t < N
              · have hgt : t < G.length := by rw [HGL.out]; exact htN
                have hgd : G[t]? = (d.drop p)[t]? := by rw [HG.out, List.getElem?_take, if_pos htN]
                obtain ⟨a, rfl, hca⟩ := (HROW.out.ext hxz).at (i := t) (v := .int .u8 (G[t]).toNat) (by unfold byts; rw [List.getElem?_map, ← hgd, List.getElem?_eq_getElem hgt]; rfl)
                have HGV := Lib.hid (gval_snoc m (G.take t) G[t])
                rw [← List.take_succ_eq_append_getElem hgt] at HGV
                have hb1 := gval_bd m (G.take t)
                rw [List.length_take, Nat.min_eq_left (by omega)] at hb1
                have hb2 : 256 ^ t ≤ 65536 := Nat.le_trans (Nat.pow_le_pow_right (by decide) (show t ≤ 2 by omega)) (by decide)
                have hv := valueI_bd m G[t]
                have hb := baseI_bd m
                have hmb := mul_bd _ _ _ _ hb1.1 hb1.2 hb.1 hb.2 hv.1 hv.2
                have HVA := fun W => Lib.hid (value_any m G[t] W HMO.out)
                have z0z := hxz.cell z0
                have p1z := hxz.cell (HKY.out.cell HP1.out HOG.out)
                obtain ⟨V, hV⟩ : ∃ V, V = gval m (G.take t) := ⟨_, rfl⟩
                rw [← hV] at hmb HGV ⊢
                obtain ⟨ch, hch⟩ : ∃ ch, ch = G[t] := ⟨_, rfl⟩
                rw [← hch] at hmb HGV hca hv
                simp only [← hch] at HVA
                obtain ⟨Y, hY⟩ : ∃ Y, Y = valueI m ch := ⟨_, rfl⟩
                rw [← hY] at hmb HGV hv
                simp only [← hY] at HVA
                obtain ⟨bs, hbs⟩ : ∃ bs, bs = baseI m := ⟨_, rfl⟩
                rw [← hbs] at hmb HGV hb p1z
                obtain ⟨X, hX⟩ : ∃ X, X = V * bs := ⟨_, rfl⟩
                rw [← hX] at hmb HGV
                have s1 : wrap64 (V * bs) = X := by rw [← hX]; exact IntWalk.wrap64_in _ ⟨by omega, by omega⟩
                have s2 : IntKind.i64.wrap (V * bs) = X := by rw [← hX]; exact IntWalk.i64_in _ (by omega)
                have HY := Lib.hid (show -16777216 ≤ X ∧ X ≤ 16777216 ∧ -1 ≤ Y ∧ Y ≤ 255 from by omega)
                have hX1 : -16777216 ≤ X := HY.out.1
                have hX2 : X ≤ 16777216 := HY.out.2.1
                have hY1 := HY.out.2.2.1
                have hY2 := HY.out.2.2.2
                clear hmb hX hbs hY hch hV hb1 hb2 hv hb HY
                go_wp2_with fail
                go_quiet ((go_at_call 66; exact quiet_same (HVA _).out))
                clear s1 s2
                go_wp2_with fail
                go_roundw
                case rel => exact ⟨t + 1, by omega, int_eq (by omega), int_eq (by rw [HGV.out]), hxz.drewN _⟩
                case measure => simp [intOf]; omega
              · obtain rfl : t = N := by omega
                rw [List.take_of_length_le (show G.length ≤ t by rw [HGL.out]; exact Nat.le_refl _)]
                have hrowz : Row wr (some ⟨h, 0, none⟩) (packA m).toList := (HKY.out.row HPR.out (fun a ha => by cases ha; exact HOG.out)).ext hxz
                have HRZ := Lib.hid hrowz
                have HKZ := Lib.hid (HKY.out.ext hxz)
                have hown' := own_extN hown hxz
                have HBZ : Hid (w.heap.size ≤ wr.heap.size) := Nat.le_trans hBI (Nat.le_trans HKY.out.size hxz.size)
                have hdz : dsize m t ≤ 11 := by have := HNM.out; have := HU.out; exact dsize_unit m t HMO.out (by omega)
                have hsum : E.length + dsize m t ≤ D := by
                  have h1 := encD_step m (d.drop p) (by intro e; have h2 := congrArg List.length e; simp at h2; omega)
                  have h2 := congrArg List.length HE.out
                  rw [h1, List.length_append, List.length_append, length_lowBits, HLD.out, List.length_drop, ← HQ.out, ← HU.out, ← HNM.out] at h2
                  omega
                have HEN : Hid ((E ++ lowBits (gval m G) (dsize m t)) ++ encD m (d.drop (p + t)) = encD m d) := by
                  have h1 := encD_step m (d.drop p) (by intro e; have h2 := congrArg List.length e; simp at h2; omega)
                  show _ = _
                  rw [← HE.out, h1, List.append_assoc, List.length_drop, ← HQ.out, ← HU.out, ← HNM.out, List.drop_drop, HG.out]
                  have e1 : List.take U (d.drop p) = List.take t (d.drop p) := by
                    have h3 := HNM.out
                    have h4 := HQ.out
                    rcases Nat.le_total q U with h | h
                    · rw [List.take_of_length_le (by simp; omega), List.take_of_length_le (by simp; omega)]
                    · rw [show t = U by omega]
                  have e2 : List.drop (p + U) d = List.drop (p + t) d := by
                    have h3 := HNM.out
                    have h4 := HQ.out
                    rcases Nat.le_total q U with h | h
                    · rw [List.drop_of_length_le (by omega), List.drop_of_length_le (by omega)]
                    · rw [show t = U by omega]
                  rw [e1, e2]
                obtain ⟨S, hS⟩ : ∃ S, S = dsize m t := ⟨_, rfl⟩
                have HS := Lib.hid hS
                rw [← hS] at hdz hsum HEN
                clear hS hrowz hown HKY z0 p0 HROW
                go_wp2_with ((with_reducible show wpList _ _ _ (⟨some 86, _, _, _, _, _⟩ :: _) _ _); refine wpList_loadAgg rfl 76 _ rfl _ Try.underlying76 rfl _ rfl (packA m).toList HRZ.out (by rw [packA_eq]; kernel_rfl) ?_)
                refine (psize_any m t _ HMO.out (by omega)).mono ?_
                rw [← HS.out]
                rintro e w6 ⟨rfl, hx6⟩
                go_wp2_with fail
                refine (put_any w.heap.size _ _ _ (gval m G) S _ (by omega) (by omega) (own_extN hown' hx6) (Nat.le_trans HBZ.out hx6.size)).mono ?_
                rintro e w7 ⟨b7, rfl, hown7, hk7⟩
                go_wp2_with fail
                have hpt : p + t ≤ d.length := by have := HQ.out; omega
                have hqt : d.length - (p + t) = q - t := by have := HQ.out; omega
                refine ⟨⟨p + t, E ++ lowBits (gval m G) S, _, _, hpt, by rw [hqt], by omega, by omega, ?_, ?_, HEN, ?_, ?_⟩, ?_⟩
                · rw [← List.drop_drop, byts_drop _ t]
                  refine Row.dropped HRO.out t fun h2 => ?_
                  rw [length_byts, List.length_drop, ← HQ.out] at h2
                  rw [if_neg (by omega)]
                · rw [List.length_append, length_lowBits]; exact hsum
                · rw [List.length_append, length_lowBits, ← Nat.add_assoc, ← List.append_assoc]; exact hown7
                · exact HKZ.out.trans ((Keep.ofExt hx6 _).trans hk7)
                · simp only [slLen]; omega
          · obtain rfl : p = d.length := by omega
            rw [Nat.sub_self] at hrc ⊢
            have hE : E = encD m d := by have := HE.out; rwa [List.drop_length, encD, List.append_nil] at this
            have HOW2 : Hid (wr.ownsRow w.heap.size 4 1 u8 (total k (l.take (j + 1))) (bools ((l.take (j + 1)).flatMap (encS k)))) := by
              have h3 : segB m k d.length = 4 + cntB m k + dsize m d.length := rfl
              have h4 : E.length = dsize m d.length := by rw [hE]; exact length_encD m HMO.out d.length d rfl
              show World.ownsRow _ _ _ _ _ _ _
              rw [HTT.out, h3, ← HCC.out, ← h4, HFM.out, encS, ← List.append_assoc, ← List.append_assoc, ← HCC.out, ← HAC.out, ← hE, ← Nat.add_assoc, ← Nat.add_assoc]
              exact hown
            clear hE hown
            go_wp2_with fail
            go_roundw
            case rel => exact ⟨j + 1, _, by omega, int_eq (by omega), Nat.le_trans HTL.out htot, rfl, HOW2.out, HKI.out.trans HKY.out⟩
            case measure => simp [intOf]; omega
      · obtain rfl : j = len := by omega
        rw [List.take_of_length_le (by omega)] at hown
        go_wp2_with fail
        go_ret2
        exact RetSl.own hown HEXT.out

end Go.Proofs.Ythebfpolijajgaa
