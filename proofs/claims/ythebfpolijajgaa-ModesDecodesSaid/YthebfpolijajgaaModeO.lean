/-
  The contracts of the reference's digits and ungroup.
  Conditions: the mode is one of the three; small numbers.
-/
import Derived.Test.YthebfpolijajgaaModeN
import Derived.BigRegion
namespace Go.Proofs.Ythebfpolijajgaa
open Go.RowKit Go.Bs Go.Mode

theorem chr_digit_all : ∀ n : Fin 10, (chrOf 1 n.val).toNat = 48 + n.val := by decide +kernel
theorem chr_digit (k : Nat) (h : k < 10) : (chrOf 1 k).toNat = 48 + k := chr_digit_all ⟨k, h⟩
theorem byts_take (l : List UInt8) (k : Nat) : byts (l.take k) = (byts l).take k := by simp [byts]

set_option maxRecDepth 20000 in
set_option maxHeartbeats 1600000 in
theorem digits_any (v n : Nat) (w : World) (hv : v ≤ 1048576) (hn1 : 1 ≤ n) (hn : n ≤ 3) :
    Calls Try.prog 91 #[.int .i64 v, .int .i64 n] w (OwnRow 5 w (byts (ungV 1 v n))) := by
  obtain ⟨L, hL⟩ : ∃ L, L = ungV 1 v n := ⟨_, rfl⟩
  have HL := Lib.hid hL
  have HLL : Hid (L.length = n) := by show _ = _; rw [hL, length_ungV]
  rw [← hL]
  clear hL
  have hpow : ∀ j, j ≤ 2 → 1 ≤ 10 ^ j ∧ 10 ^ j ≤ 100 := by
    intro j hj
    have h1 : 10 ^ j ≤ 10 ^ 2 := Nat.pow_le_pow_right (by decide) hj
    exact ⟨Nat.pos_of_ne_zero (by simp), h1⟩
  have HPOW := Lib.hid hpow
  clear hpow
  go_enter Try.func91, Try.ntmps91
  go_wp2_with fail
  go_loop [6, 7] (fun b i => ∃ j B : Nat, 1 ≤ j ∧ j ≤ n ∧ i = .int .i64 j ∧ b = .int .i64 B ∧ Hid (B = 10 ^ (j - 1)) ∧ B ≤ 100) (fun _ i => n - (intOf i).toNat)
  case atStart => exact ⟨1, 1, Nat.le_refl _, hn1, rfl, rfl, rfl, by omega⟩
  case round =>
    obtain ⟨j, B, hj1, hjn, rfl, rfl, HB, hB⟩ := hrel
    by_cases hlt : j < n
    · have hb10 : 10 * B ≤ 100 := by
        have h1 := (HPOW.out j (by omega)).2
        have h2 : 10 ^ j = 10 ^ (j - 1) * 10 := by rw [← Nat.pow_succ]; congr 1; omega
        rw [HB.out]; omega
      have HB2 : Hid (10 * B = 10 ^ (j + 1 - 1)) := by
        show _ = _
        rw [HB.out, Nat.add_sub_cancel, show 10 ^ j = 10 ^ (j - 1) * 10 from by rw [← Nat.pow_succ]; congr 1; omega]
        omega
      go_wp2_with fail
      go_round
      case rel => exact ⟨j + 1, 10 * B, by omega, by omega, int_eq (by omega), int_eq (by omega), HB2, hb10⟩
      case measure => simp [intOf]; omega
    · obtain rfl : j = n := by omega
      have hB1 : 1 ≤ B := by rw [HB.out]; exact (HPOW.out (j - 1) (by omega)).1
      go_wp2_with fail
      go_loopw [5, 6, 8] (fun s b i wr => ∃ q Y : Nat, q ≤ j ∧ i = .int .i64 q ∧ b = .int .i64 Y ∧ Hid (q < j → Y = 10 ^ (j - 1 - q)) ∧ 1 ≤ Y ∧ Y ≤ 100 ∧ wr.ownsRow w.heap.size 5 1 s q (byts (L.take q)) ∧ Hid (Ext w wr)) (fun _ _ i _ => j - (intOf i).toNat)
      case atStart => exact ⟨0, B, Nat.zero_le _, rfl, rfl, fun _ => HB.out, hB1, hB, World.ownsRow_nil _ _ _ _, Ext.refl _⟩
      case round =>
        obtain ⟨q, Y, hq, rfl, rfl, HY, hY1, hY2, hown, HXW⟩ := hrel
        by_cases hlt2 : q < j
        · have hYe := HY.out hlt2
          have HLQ : Hid ((L[q]'(by rw [HLL.out]; exact hlt2)).toNat = 48 + v / Y % 10) := by
            show _ = _
            have h1 := ungV_at 1 v j q hlt2
            have h2 : L[q]'(by rw [HLL.out]; exact hlt2) = chrOf 1 (v / baseN 1 ^ (j - 1 - q) % baseN 1) := by simp only [HL.out]; exact h1
            rw [h2, show baseN 1 = 10 from rfl, ← hYe]
            exact chr_digit _ (Nat.mod_lt _ (by decide))
          have HTS : Hid (byts (L.take q) ++ [.int .u8 ((48 + v / Y % 10 : Nat) : Int)] = byts (L.take (q + 1))) := by
            show _ = _
            rw [List.take_succ_eq_append_getElem (by rw [HLL.out]; exact hlt2), byts_append, ← HLQ.out]
            rfl
          have hdv : v / Y ≤ 1048576 := Nat.le_trans (Nat.div_le_self _ _) hv
          have HYN : Hid (q + 1 < j → Y / 10 = 10 ^ (j - 1 - (q + 1))) := by
            intro h
            rw [hYe, show j - 1 - q = j - 1 - (q + 1) + 1 by omega, Nat.pow_succ]
            omega
          have HY10 : Hid (Y / 10 = 0 → ¬ q + 1 < j) := by
            intro h0 h
            have := HYN.out h
            have h1 := (HPOW.out (j - 1 - (q + 1)) (by omega)).1
            omega
          obtain ⟨Q, hQ⟩ : ∃ Q, Q = v / Y := ⟨_, rfl⟩
          have q1 : (v : Int).tdiv (Y : Int) = (Q : Int) := by rw [hQ, Int.tdiv_eq_ediv_of_nonneg (by omega)]; rfl
          have q2 : (v : Int) / (Y : Int) = (Q : Int) := by rw [hQ]; rfl
          rw [← hQ] at HTS hdv
          obtain ⟨dg, hdg⟩ : ∃ dg, dg = Q % 10 := ⟨_, rfl⟩
          have q3 : (Q : Int) % 10 = (dg : Int) := by omega
          have q4 : (Q : Int).tmod 10 = (dg : Int) := by rw [Int.tmod_eq_emod_of_nonneg (by omega)]; omega
          have hdg9 : dg ≤ 9 := by omega
          rw [← hdg] at HTS
          have HTS' : Hid (byts (L.take q) ++ [.int .u8 (48 + (dg : Int))] = byts (L.take (q + 1))) := by rw [← HTS.out]; rfl
          have hwz := HXW.out.size
          clear hQ hdg hYe HLQ HTS
          go_wp2_with (at_builtin; refine wpList_pushK rfl _ _ 22 rfl w.heap.size 5 (.int .u8 0) 1 1 Try.infoByte rfl (by decide) Try.underlying22 _ rfl _ _ hown [.int .u8 (48 + (dg : Int))] rfl rfl (by simp [Value.oneCell']) (by omega) (by omega) hwz ?_; intro s2 w2 hown2 hk2; rw [HTS'.out] at hown2; (have HX2 : Hid (Ext w w2) := Below.trans HXW.out (hk2.below hwz (fun k hk => (hown.lt k hk).1))); clear hk2)
          · have h0 : (((Y : Int) / 10) == 0) = true := by assumption
            have h1 : Y / 10 = 0 := by rw [beq_iff_eq] at h0; omega
            exact ⟨⟨q + 1, 1, by omega, int_eq (by omega), rfl, fun h => absurd h (HY10.out h1), by omega, by omega, hown2, HX2⟩, by simp [intOf]; omega⟩
          · have h0 : (((Y : Int) / 10) == 0) = false := by assumption
            have h1 : Y / 10 ≠ 0 := by intro e; rw [beq_eq_false_iff_ne] at h0; omega
            exact ⟨⟨q + 1, Y / 10, by omega, int_eq (by omega), int_eq (by omega), HYN, by omega, by omega, hown2, HX2⟩, by simp [intOf]; omega⟩
        · obtain rfl : q = j := by omega
          rw [List.take_of_length_le (by rw [HLL.out]; exact Nat.le_refl _)] at hown
          go_wp2_with fail
          go_ret
          refine ⟨_, rfl, ?_, HXW.out⟩
          rw [length_byts, HLL.out]
          exact hown

theorem alnum_str (k : Nat) (hk : k < 45) (m : Int) (hm : m ≠ 4) (B : ByteArray) (hB : B.data.toList = alnum) (hs : k < B.size) : B[k] = chrOf m k := by
  rw [alnum_at k hk B hB hs, chr_alnum m hm k hk]

set_option maxRecDepth 20000 in
set_option maxHeartbeats 1600000 in
theorem ungroup_any (m : Int) (v n : Nat) (w : World) (hm : okMode m = true) (hv : v ≤ 1048576) (hn1 : 1 ≤ n) (hn : n ≤ unitN m) (h4 : m = 4 → v < 256) :
    Calls Try.prog 80 #[.int .i64 m, .int .i64 v, .int .i64 n] w (OwnOk 5 w (byts (ungV m v n)) (ungOk m v n)) := by
  rcases okMode_cases m with rfl | rfl | rfl | ⟨h, _⟩
  case inr.inr.inr => rw [hm] at h; cases h
  case inr.inr.inl =>
    have hv4 := h4 rfl
    obtain rfl : n = 1 := by have : unitN 4 = 1 := rfl; omega
    have HU : Hid (ungV 4 v 1 = [UInt8.ofNat v]) := by show _ = _; simp [ungV, chrOf, baseN, Nat.mod_eq_of_lt hv4]
    have HO : Hid (ungOk 4 v 1 = true) := by show _ = _; simp [ungOk, baseN]; omega
    rw [HU.out, HO.out]
    have HN : Hid ((UInt8.ofNat v).toNat = v) := by show _ = _; simp; omega
    clear hm h4 hn hn1
    go_enter Try.func80, Try.ntmps80
    go_wp2_with fail
    go_ret2
    refine ⟨_, rfl, ?_, Ext.alloc _ _⟩
    have : byts [UInt8.ofNat v] = [.int .u8 (v : Int)] := by simp [byts]; omega
    rw [this]
    exact World.ownsRow_lit w #[.int .u8 (v : Int)] 1 (Nat.le_refl _) (by decide) rfl
  case inl =>
    clear h4
    have hn3 : n ≤ 3 := hn
    have HD := Lib.hid (digits_any v n w hv hn1 hn3)
    have h123 : n = 1 ∨ n = 2 ∨ n = 3 := by omega
    have HO : Hid (ungOk 1 v n = decide (v < 10 ^ n)) := by
      show _ = _
      unfold ungOk
      rw [show baseN 1 = 10 from rfl]
      congr 1
      rw [Nat.div_eq_zero_iff]
      simp
    rw [HO.out]
    clear hm hn hn1 HO
    have hpw : (n = 1 ∧ 10 ^ n = 10) ∨ (n = 2 ∧ 10 ^ n = 100) ∨ (n = 3 ∧ 10 ^ n = 1000) := by
      rcases h123 with rfl | rfl | rfl <;> simp
    obtain ⟨P, hP⟩ : ∃ P, P = 10 ^ n := ⟨_, rfl⟩
    rw [← hP] at hpw ⊢
    clear hP h123 hn3
    by_cases hlt : v < P
    · rw [decide_eq_true hlt]
      rcases hpw with ⟨rfl, rfl⟩ | ⟨rfl, rfl⟩ | ⟨rfl, rfl⟩
      all_goals
        go_enter Try.func80, Try.ntmps80
        go_wp2_with fail
        refine HD.out.mono ?_
        rintro e w1 ⟨s1, rfl, hown1, hx1⟩
        obtain ⟨so, sc, rfl, _⟩ := own_row hown1
        go_wp2_with fail
        go_ret2
        exact ⟨.slice so _ sc, by first | rfl | (simp; omega), hown1, hx1⟩
    · rw [decide_eq_false hlt]
      rcases hpw with ⟨rfl, rfl⟩ | ⟨rfl, rfl⟩ | ⟨rfl, rfl⟩
      all_goals
        go_enter Try.func80, Try.ntmps80
        go_wp2_with fail
        refine HD.out.mono ?_
        rintro e w1 ⟨s1, rfl, hown1, hx1⟩
        obtain ⟨so, sc, rfl, _⟩ := own_row hown1
        go_wp2_with fail
        go_ret2
        exact ⟨.slice so _ sc, by first | rfl | (simp; omega), hown1, hx1⟩
  case inr.inl =>
    clear h4 hm
    have h12 : n = 1 ∨ n = 2 := by have : unitN 2 = 2 := rfl; omega
    clear hn hn1
    obtain ⟨d0, hd0⟩ : ∃ d0, d0 = v % 45 := ⟨_, rfl⟩
    obtain ⟨q0, hq0⟩ : ∃ q0, q0 = v / 45 := ⟨_, rfl⟩
    obtain ⟨d1, hd1⟩ : ∃ d1, d1 = q0 % 45 := ⟨_, rfl⟩
    have e0 : (v : Int) % 45 = (d0 : Int) := by omega
    have e0' : (v : Int).tmod 45 = (d0 : Int) := by rw [Int.tmod_eq_emod_of_nonneg (by omega)]; exact e0
    have e1 : (v : Int) / 45 = (q0 : Int) := by omega
    have e1' : (v : Int).tdiv 45 = (q0 : Int) := by rw [Int.tdiv_eq_ediv_of_nonneg (by omega)]; exact e1
    have e2 : (q0 : Int) % 45 = (d1 : Int) := by omega
    have e2' : (q0 : Int).tmod 45 = (d1 : Int) := by rw [Int.tmod_eq_emod_of_nonneg (by omega)]; exact e2
    have hd045 : d0 < 45 := by omega
    have hd145 : d1 < 45 := by omega
    have hq0b : q0 ≤ 1048576 := by omega
    have HU1 : Hid (ungV 2 v 1 = [chrOf 2 d0]) := by show _ = _; simp [ungV, baseN, hd0]
    have HU2 : Hid (ungV 2 v 2 = [chrOf 2 d1, chrOf 2 d0]) := by show _ = _; simp [ungV, baseN, hd0, hd1, hq0, List.range_succ]
    clear hd0 hq0 hd1
    rcases h12 with rfl | rfl
    · have HO : Hid (ungOk 2 v 1 = decide (v < 45)) := by show _ = _; unfold ungOk; congr 1; simp [baseN, Nat.div_eq_zero_iff]
      rw [HU1.out, HO.out]
      go_enter Try.func80, Try.ntmps80
      go_wp2_with fail
      go_ret2
      rw [alnum_str d0 hd045 2 (by decide) _ (by decide)]
      exact ⟨_, by simp; omega, World.ownsRow_lit w #[.int .u8 (chrOf 2 d0).toNat] 1 (Nat.le_refl _) (by decide) rfl, Ext.alloc _ _⟩
    · have HO : Hid (ungOk 2 v 2 = decide (v < 2025)) := by show _ = _; unfold ungOk; congr 1; simp [baseN, Nat.div_eq_zero_iff]
      rw [HU2.out, HO.out]
      go_enter Try.func80, Try.ntmps80
      go_wp2_with fail
      have x0 : (d0 : Int) < 45 := by omega
      have x1 : (d1 : Int) < 45 := by omega
      have y0 : (0 : Int) ≤ (d0 : Int) := by omega
      have y1 : (0 : Int) ≤ (d1 : Int) := by omega
      have wq : IntKind.i64.wrap (q0 : Int) = (q0 : Int) := IntWalk.i64_in _ (by omega)
      go_region
      go_wp2_with fail
      go_ret2
      rw [alnum_str d0 hd045 2 (by decide) _ (by decide), alnum_str d1 hd145 2 (by decide) _ (by decide)]
      exact ⟨_, by simp; omega, World.ownsRow_lit w.drew #[.int .u8 (chrOf 2 d1).toNat, .int .u8 (chrOf 2 d0).toNat] 2 (Nat.le_refl _) (by decide) rfl, (Ext.drew w).trans (Ext.alloc _ _)⟩

end Go.Proofs.Ythebfpolijajgaa
