/-
  The contracts of the reference's group and Encode.
  Conditions: the slices' cells are those of the lists; for group: the mode is one of the three, the bytes fit, there is one.
-/
import Derived.Test.YthebfpolijajgaaModeH
namespace Go.Proofs.Ythebfpolijajgaa
open Go.RowKit Go.Bs Go.Mode

theorem place_digit_all : ∀ n : Fin 256, 48 ≤ n.val → n.val ≤ 57 → placeI (UInt8.ofNat n.val) = (n.val : Int) - 48 := by decide +kernel
theorem place_digit (c : UInt8) (h : fitsB 1 c = true) : placeI c = (c.toNat : Int) - 48 ∧ 48 ≤ c.toNat ∧ c.toNat ≤ 57 := by
  unfold fitsB at h
  simp at h
  have := place_digit_all ⟨c.toNat, c.toNat_lt⟩ h.1 h.2
  simp at this
  exact ⟨this, h.1, h.2⟩

def grpRes (m : Int) (d : List UInt8) : Int × Int × Int := (gval m (d.take (unitN m)), dsize m (min d.length (unitN m)), (min d.length (unitN m) : Nat))

set_option maxRecDepth 20000 in
set_option maxHeartbeats 800000 in
theorem group_any (m : Int) (ao : Option Addr) (len cap : Nat) (d : List UInt8) (w : World) (hm : okMode m = true) (hl : d.length = len) (hcap : len ≤ cap) (hmax : cap ≤ 9223372036854775807) (hp : 0 < len) (hf : d.all (fitsB m) = true) (hr : Row w ao (byts d)) :
    Calls Try.prog 68 #[.int .i64 m, .slice ao len cap] w fun e w' => e = .returned (three (grpRes m d)) ∧ ∃ k, w' = w.drewN k := by
  have HL := Lib.hid hl
  have HF := Lib.hid hf
  have hge : len ≤ d.length := by omega
  clear hf
  rcases okMode_cases m with rfl | rfl | rfl | ⟨h, _⟩
  case inr.inr.inr => rw [hm] at h; cases h
  · clear hm hl
    obtain ⟨N, hN⟩ : ∃ N, N = min len 3 := ⟨_, rfl⟩
    have HG : Hid (grpRes 1 d = (gval 1 (d.take N), ((dsize 1 N : Nat) : Int), (N : Int))) := by
      show _ = _
      unfold grpRes
      rw [show unitN 1 = 3 from rfl, HL.out, ← hN]
      have : d.take 3 = d.take N := by
        rcases Nat.le_total len 3 with h | h
        · rw [List.take_of_length_le (by rw [HL.out]; exact h), List.take_of_length_le (by rw [HL.out]; omega)]
        · rw [show N = 3 by omega]
      rw [this]
    have hN3 : N ≤ 3 := by omega
    have hNl : N ≤ len := by omega
    have HN := Lib.hid hN
    clear hN
    go_enter Try.func68, Try.ntmps68
    go_wp2_with fail
    go_loop [7, 8] (fun v i => ∃ k : Nat, k ≤ N ∧ i = .int .i64 k ∧ v = .int .i64 (gval 1 (d.take k))) (fun _ i => 3 - (intOf i).toNat)
    case atStart => exact ⟨0, Nat.zero_le _, rfl, rfl⟩
    case round =>
      obtain ⟨k, hk, rfl, rfl⟩ := hrel
      by_cases hlt : k < N
      · obtain ⟨a, rfl, hc⟩ := hr.at (byts_at d k (by omega))
        have hfk : fitsB 1 (d[k]'(by omega)) = true := (List.all_eq_true.1 HF.out) _ (List.getElem_mem _)
        obtain ⟨hpl, h48, h57⟩ := place_digit _ hfk
        have HGV := Lib.hid (gval_snoc 1 (d.take k) (d[k]'(by omega)))
        rw [← List.take_succ_eq_append_getElem (by omega), show valueI 1 (d[k]'(by omega)) = placeI (d[k]'(by omega)) from rfl, hpl, show baseI 1 = 10 from rfl] at HGV
        have hb1 := gval_bd 1 (d.take k)
        rw [List.length_take, Nat.min_eq_left (by omega)] at hb1
        have hb2 : 256 ^ k ≤ 65536 := Nat.le_trans (Nat.pow_le_pow_right (by decide) (show k ≤ 2 by omega)) (by decide)
        have hV1 : -65536 ≤ gval 1 (d.take k) := by omega
        have hV2 : gval 1 (d.take k) ≤ 65536 := by omega
        obtain ⟨V, hV⟩ : ∃ V, V = gval 1 (d.take k) := ⟨_, rfl⟩
        rw [← hV] at hV1 hV2 HGV ⊢
        obtain ⟨X, hX⟩ : ∃ X, X = (d[k]'(by omega)).toNat := ⟨_, rfl⟩
        rw [← hX] at HGV h48 h57 hc
        have hk3 : k < 3 := by omega
        have hkl : k < len := by omega
        clear hV hX hb1 hb2 hpl hfk
        go_wp2_with fail
        exact ⟨⟨k + 1, by omega, int_eq (by omega), int_eq (by rw [HGV.out]; omega)⟩, by simp [intOf]; omega⟩
      · obtain rfl : k = N := by omega
        have hst : 3 ≤ k ∨ (k < 3 ∧ len ≤ k) := by have := HN.out; omega
        have HRD := Lib.hid (rdata_any 1 k w rfl (by omega))
        obtain ⟨D, hD⟩ : ∃ D, D = dsize 1 k := ⟨_, rfl⟩
        rw [← hD] at HRD HG
        clear hD
        rcases hst with h1 | ⟨h1, h2⟩
        all_goals
          go_wp2_with fail
          refine HRD.out.mono ?_
          rintro e w' ⟨rfl, rfl⟩
          go_wp2_with fail
          go_ret3
          refine ⟨?_, 0, rfl⟩
          rw [HG.out]
          rfl
  · clear hm
    have hl2 : d.length = len := HL.out
    match d, hl2 with
    | [], hl2 => simp at hl2; omega
    | [c0], hl2 =>
      simp at hl2
      subst hl2
      clear hl
      obtain ⟨a, rfl, hc⟩ := hr.at (i := 0) rfl
      have HG : Hid (grpRes 2 [c0] = (placeI c0, 6, 1)) := by show _ = _; simp [grpRes, unitN, gval, valueI, dsize]
      have ha0 : a.add 0 = a := by simp [Addr.add]
      rw [ha0] at hc
      clear ha0
      go_enter Try.func68, Try.ntmps68
      go_wp2_with fail
      refine (place_any c0 _).mono ?_
      rintro e w' ⟨rfl, rfl⟩
      go_wp2_with fail
      go_ret3
      exact ⟨by rw [HG.out]; rfl, 0, rfl⟩
    | c0 :: c1 :: r, hl2 =>
      have h2 : 2 ≤ len := by simp at hl2; omega
      have HG : Hid (grpRes 2 (c0 :: c1 :: r) = (45 * placeI c0 + placeI c1, 11, 2)) := by
        show _ = _
        simp [grpRes, unitN, gval, valueI, baseI, dsize]
        omega
      obtain ⟨a, rfl, hc⟩ := hr.at (i := 0) rfl
      obtain ⟨a', ha', hc'⟩ := hr.at (i := 1) rfl
      cases ha'
      have ha0 : a.add 0 = a := by simp [Addr.add]
      rw [ha0] at hc
      obtain ⟨ab, aof, asp⟩ := a
      have hsp : asp = none := by simpa using World.cell?_spot hc
      subst hsp
      rw [Addr.add_lit] at hc'
      have hb0 := placeI_bd c0
      have hb1 := placeI_bd c1
      have hne : ((len : Int) == 1) = false := by simp; omega
      clear ha0 hl hl2 HL HF hge hr
      go_enter Try.func68, Try.ntmps68
      go_wp2_with fail
      go_quiet ((go_at_call 70; exact quiet_same (place_any _ _)))
      go_wp2_with fail
      go_ret3
      exact ⟨by rw [HG.out]; rfl, _, rfl⟩
  · clear hm
    have hl2 : d.length = len := HL.out
    match d, hl2 with
    | [], hl2 => simp at hl2; omega
    | c0 :: r, hl2 =>
      have HG : Hid (grpRes 4 (c0 :: r) = ((c0.toNat : Int), 8, 1)) := by
        show _ = _
        simp [grpRes, unitN, gval, valueI, dsize]
      obtain ⟨a, rfl, hc⟩ := hr.at (i := 0) rfl
      have ha0 : a.add 0 = a := by simp [Addr.add]
      rw [ha0] at hc
      have hb : c0.toNat < 256 := c0.toNat_lt
      clear ha0 hl hl2 HL HF hge hr
      go_enter Try.func68, Try.ntmps68
      go_wp2_with fail
      go_ret3
      exact ⟨by rw [HG.out]; rfl, 0, rfl⟩

end Go.Proofs.Ythebfpolijajgaa
