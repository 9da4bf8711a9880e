/-
  The contracts of the reference's segment and Decode.
  Conditions: the slice's cells are those of the list; for segment: the mode is one of the three.
-/
import Derived.Test.YthebfpolijajgaaModeO
namespace Go.Proofs.Ythebfpolijajgaa
open Go.RowKit Go.Bs Go.Mode

def segRes (m : Int) (bs : List Bool) (p n : Nat) : List UInt8 × Int × Int :=
  if bs.length - p < dsize m n then ([], 0, 10) else match decD m n (bs.drop p) with | none => ([], 0, 9) | some d => (d, ((p + dsize m n : Nat) : Int), 0)
theorem sg_1 {m : Int} {bs : List Bool} {p n : Nat} (h : bs.length - p < dsize m n) : segRes m bs p n = ([], 0, 10) := by unfold segRes; rw [if_pos h]
theorem sg_2 {m : Int} {bs : List Bool} {p n : Nat} (h : ¬ bs.length - p < dsize m n) (h2 : decD m n (bs.drop p) = none) : segRes m bs p n = ([], 0, 9) := by unfold segRes; rw [if_neg h, h2]
theorem sg_3 {m : Int} {bs : List Bool} {p n : Nat} {d : List UInt8} (h : ¬ bs.length - p < dsize m n) (h2 : decD m n (bs.drop p) = some d) : segRes m bs p n = (d, ((p + dsize m n : Nat) : Int), 0) := by unfold segRes; rw [if_neg h, h2]

def SegPost (w : World) (r : List UInt8 × Int × Int) (e : Ending) (w' : World) : Prop :=
  ∃ s, e = .returned (.tuple #[s, .int .i64 r.2.1, .int .i64 r.2.2]) ∧ w'.ownsRow w.heap.size 5 1 s r.1.length (byts r.1) ∧ Ext w w'

set_option maxRecDepth 20000 in
set_option maxHeartbeats 1600000 in
theorem segment_1 (ao : Option Addr) (len cap : Nat) (bs : List Bool) (p0 n : Nat) (w : World) (hl : bs.length = len) (hb : len ≤ 1048576) (hp0 : p0 ≤ len) (hn : n < 65536) (hr : Row w ao (bools bs)) :
    Calls Try.prog 59 #[.slice ao len cap, .int .i64 p0, .int .i64 1, .int .i64 n] w (SegPost w (segRes 1 bs p0 n)) := by
  have HL := Lib.hid hl
  obtain ⟨R, hR⟩ : ∃ R, R = segRes 1 bs p0 n := ⟨_, rfl⟩
  have HR := Lib.hid hR
  rw [← hR]
  clear hR hl
  have HRD := fun W (q : Nat) (hq : q ≤ 1099511627776) => Lib.hid (rdata_any 1 q W rfl hq)
  have HRN := Lib.hid (rdata_any 1 n w rfl (by omega))
  have hdb : dsize 1 n ≤ 11 * n + 7 := by unfold dsize; split <;> (try split) <;> (try split) <;> (try split) <;> omega
  obtain ⟨D, hD⟩ : ∃ D, D = dsize 1 n := ⟨_, rfl⟩
  rw [← hD] at HRN hdb
  have HDD := Lib.hid hD
  clear hD
  by_cases hlt : len - p0 < D
  · have HR1 := Lib.hid (HR.out.trans (sg_1 (by rw [HL.out, ← HDD.out]; exact hlt)))
    have hlt' : (len : Int) - (p0 : Int) < (D : Int) := by omega
    clear hlt
    go_enter Try.func59, Try.ntmps59
    go_wp2_with fail
    refine HRN.out.mono ?_
    rintro e w' ⟨rfl, rfl⟩
    go_wp2_with fail
    go_ret3
    rw [HR1.out]
    exact ⟨_, rfl, World.ownsRow_nil _ _ _ _, Ext.refl _⟩
  · have HLT := Lib.hid hlt
    have hlt' : ¬ (len : Int) - (p0 : Int) < (D : Int) := by omega
    have hpd : p0 + D ≤ len := by omega
    clear hlt
    go_enter Try.func59, Try.ntmps59
    go_wp2_with fail
    refine HRN.out.mono ?_
    rintro e w' ⟨rfl, rfl⟩
    go_wp2_with fail
    go_loopw [1, 12, 13, 14, 15, 16, 17, 18] (fun at' v _ _ _ _ _ _ wy => ∃ (r p : Nat) (done : List UInt8), p ≤ len ∧ at' = .int .i64 p ∧ Hid (done.length + r = n) ∧ done.length ≤ n ∧ wy.ownsRow w.heap.size 5 1 v done.length (byts done) ∧ Hid ((decD 1 r (bs.drop p)).map (done ++ ·) = decD 1 n (bs.drop p0)) ∧ Hid (p + dsize 1 r = p0 + D) ∧ Hid (Ext w wy)) (fun _ v _ _ _ _ _ _ _ => n - slLen v)
    case atStart =>
      refine ⟨n, p0, [], hp0, rfl, by show _ = _; simp, Nat.zero_le _, World.ownsRow_nil _ _ _ _, ?_, ?_, Ext.refl _⟩
      · show _ = _
        cases decD 1 n (bs.drop p0) <;> simp
      · show _ = _
        rw [← HDD.out]
    case round =>
      obtain ⟨r, p, done, hp, rfl, HDN, hdn, hown, HDC, HPP, HXW⟩ := hrel
      obtain ⟨so, sc, rfl, hso, hsm, _, _⟩ := own_row hown
      by_cases hr0 : done.length < n
      · obtain ⟨dl, hdl⟩ : ∃ dl, dl = done.length := ⟨_, rfl⟩
        have HDLn := Lib.hid hdl
        rw [← hdl] at hr0 hdn hown hso ⊢
        obtain ⟨K, hK⟩ : ∃ K : Nat, K = min r 3 := ⟨_, rfl⟩
        have hrd : r = n - dl := by have := HDN.out; omega
        have hmin : min (3 : Int) ((n : Int) - (dl : Int)) = (K : Int) := by omega
        have hK1 : 1 ≤ K := by omega
        have hK3 : K ≤ 3 := by omega
        have hKr : K ≤ n - dl := by omega
        have hSp : dsize 1 r = dsize 1 K + dsize 1 (r - K) := by rw [hK]; exact dsize_split 1 r rfl
        have hS11 : dsize 1 K ≤ 11 := dsize_unit 1 K rfl (by rw [hK]; exact Nat.min_le_right _ _)
        have hpp := HPP.out
        have hpS : p + dsize 1 K ≤ len := by omega
        have HPP2 : Hid (p + dsize 1 K + dsize 1 (r - K) = p0 + D) := by show _ = _; omega
        have HBAD : Hid (ungOk 1 (numN ((bs.drop p).take (dsize 1 K))) K = false → decD 1 n (bs.drop p0) = none) := by
          intro hb
          rw [← HDC.out, decD_bad 1 r (bs.drop p) (by omega) (by rw [show unitN 1 = 3 from rfl, ← hK]; exact hb)]
          rfl
        have HGOOD : Hid (ungOk 1 (numN ((bs.drop p).take (dsize 1 K))) K = true → (decD 1 (r - K) (bs.drop (p + dsize 1 K))).map ((done ++ ungV 1 (numN ((bs.drop p).take (dsize 1 K))) K) ++ ·) = decD 1 n (bs.drop p0)) := by
          intro hb
          rw [← HDC.out, decD_ok 1 r (bs.drop p) (by omega) (by rw [show unitN 1 = 3 from rfl, ← hK]; exact hb), show unitN 1 = 3 from rfl, ← hK, List.drop_drop]
          cases decD 1 (r - K) (bs.drop (p + dsize 1 K)) <;> simp
        have hVl : numN ((bs.drop p).take (dsize 1 K)) < 2 ^ dsize 1 K := by
          have h1 := numN_lt ((bs.drop p).take (dsize 1 K))
          rwa [List.length_take, List.length_drop, HL.out, Nat.min_eq_left (by omega)] at h1
        have hVb : numN ((bs.drop p).take (dsize 1 K)) ≤ 1048576 := by
          have : 2 ^ dsize 1 K ≤ 2 ^ 11 := Nat.pow_le_pow_right (by decide) hS11
          omega
        have HV4 : Hid ((1 : Int) = 4 → numN ((bs.drop p).take (dsize 1 K)) < 256) := by
          intro h4
          have : dsize 1 K ≤ 8 := by
            first
              | exact absurd h4 (by decide)
              | (rw [hK]; show 8 * min r 1 ≤ 8; omega)
          have h2 : 2 ^ dsize 1 K ≤ 2 ^ 8 := Nat.pow_le_pow_right (by decide) this
          omega
        have HRK := fun W => HRD W K (by omega)
        obtain ⟨S, hS⟩ : ∃ S, S = dsize 1 K := ⟨_, rfl⟩
        have HS := Lib.hid hS
        simp only [← hS] at HRK
        rw [← hS] at hS11 hpS HPP2 HBAD HGOOD hVl hVb HV4
        have HTK : Hid (takeRes bs p S = (num ((bs.drop p).take S), 0)) := by show _ = _; rw [takeRes_3 (by rw [HL.out]; omega) (by rw [HL.out]; omega)]; rfl
        obtain ⟨V, hV⟩ : ∃ V, V = numN ((bs.drop p).take S) := ⟨_, rfl⟩
        have HV : Hid (num ((bs.drop p).take S) = (V : Int)) := by show _ = _; rw [hV]; exact numN_num _
        rw [← hV] at HBAD HGOOD hVb HV4
        rw [HV.out] at HTK
        have HDN2 : Hid ((done ++ ungV 1 V K).length + (r - K) = n) := by show _ = _; rw [List.length_append, length_ungV]; have := HDN.out; omega
        have hdn2 : (done ++ ungV 1 V K).length ≤ n := by rw [List.length_append, length_ungV]; omega
        have HUK : Hid (K ≤ unitN 1) := by rw [hK]; exact Nat.min_le_right _ _
        clear hK hS hV hSp hpp hrd hdl hVl
        have HRW := Lib.hid (hr.ext HXW.out)
        have hwz := HXW.out.size
        go_wp2_with fail
        refine (HRK _).out.mono ?_
        rintro e w' ⟨rfl, rfl⟩
        go_wp2_with fail
        refine (rtake_any ao len cap bs p S _ HL.out (by omega) HRW.out).mono ?_
        rw [HTK.out]
        rintro e w' ⟨rfl, rfl⟩
        simp only [two]
        go_wp2_with fail
        refine (ungroup_any 1 V K _ rfl hVb hK1 HUK.out (fun h => by first | exact HV4.out h | exact HV4.out trivial)).mono ?_
        rintro e w8 ⟨s8, rfl, hown8, hx8⟩
        obtain ⟨so8, sc8, rfl, hso8, hsm8, _, hsr8⟩ := own_row hown8
        rw [length_byts, length_ungV] at hso8 ⊢
        have HN8 := Lib.hid (own_nil' hown8)
        have HSR8 := Lib.hid hsr8
        have HX8 := Lib.hid (HXW.out.trans hx8)
        have HOW8 := Lib.hid (own_extN hown hx8)
        clear hown8 hsr8 hx8 hown
        cases hok : ungOk 1 V K
        · have HR1 := Lib.hid (HR.out.trans (sg_2 (by rw [HL.out, ← HDD.out]; exact HLT.out) (HBAD.out hok)))
          clear hok
          go_wp2_with fail
          go_ret3
          rw [HR1.out]
          exact ⟨_, rfl, World.ownsRow_nil _ _ _ _, HX8.out⟩
        · have HGD := Lib.hid (HGOOD.out hok)
          have hown8 := HOW8.out
          have hB8 := HX8.out.size
          clear hok HBAD HGOOD
          go_wp2_with (at_builtin; refine wpList_app rfl _ _ 22 rfl w.heap.size 5 (.int .u8 0) 1 1 Try.infoByte rfl (by decide) Try.underlying22 _ rfl _ _ hown8 _ K sc8 rfl (byts (ungV 1 V K)) HSR8.out (by rw [length_byts, length_ungV]; omega) HN8.out (byts_oneCell _) (by omega) (by omega) hB8 ?_; intro s9 w9 hown9 hk9)
          have hown9' : w9.ownsRow w.heap.size 5 1 s9 (done ++ ungV 1 V K).length (byts (done ++ ungV 1 V K)) := by
            rw [List.length_append, length_ungV, byts_append, ← HDLn.out]; exact hown9
          have HX9 : Hid (Ext w w9) := Below.trans HX8.out (hk9.below hB8 (fun k hk => (hown8.lt k hk).1))
          have hsl : slLen s9 = dl + K := by
            obtain ⟨_, _, rfl, _⟩ := own_row hown9
            rfl
          clear hown9 hk9
          go_roundw
          case rel => exact ⟨r - K, p + S, done ++ ungV 1 V K, hpS, int_eq (by omega), HDN2, hdn2, hown9', HGD, HPP2, HX9⟩
          case measure => rw [hsl]; simp only [slLen]; omega
      · have hr0' : r = 0 := by have := HDN.out; omega
        subst hr0'
        have hd0 : decD 1 n (bs.drop p0) = some done := by
          have := HDC.out
          rw [decD_zero] at this
          simpa using this.symm
        have HR1 := Lib.hid (HR.out.trans (sg_3 (by rw [HL.out, ← HDD.out]; exact HLT.out) hd0))
        have HPE : Hid (p = p0 + D) := by have := HPP.out; rwa [dsize_zero] at this
        clear hd0
        go_wp2_with fail
        go_ret3
        rw [HR1.out, ← HDD.out, ← HPE.out]
        exact ⟨_, rfl, hown, HXW.out⟩
set_option maxRecDepth 20000 in
set_option maxHeartbeats 1600000 in
theorem segment_2 (ao : Option Addr) (len cap : Nat) (bs : List Bool) (p0 n : Nat) (w : World) (hl : bs.length = len) (hb : len ≤ 1048576) (hp0 : p0 ≤ len) (hn : n < 65536) (hr : Row w ao (bools bs)) :
    Calls Try.prog 59 #[.slice ao len cap, .int .i64 p0, .int .i64 2, .int .i64 n] w (SegPost w (segRes 2 bs p0 n)) := by
  have HL := Lib.hid hl
  obtain ⟨R, hR⟩ : ∃ R, R = segRes 2 bs p0 n := ⟨_, rfl⟩
  have HR := Lib.hid hR
  rw [← hR]
  clear hR hl
  have HRD := fun W (q : Nat) (hq : q ≤ 1099511627776) => Lib.hid (rdata_any 2 q W rfl hq)
  have HRN := Lib.hid (rdata_any 2 n w rfl (by omega))
  have hdb : dsize 2 n ≤ 11 * n + 7 := by unfold dsize; split <;> (try split) <;> (try split) <;> (try split) <;> omega
  obtain ⟨D, hD⟩ : ∃ D, D = dsize 2 n := ⟨_, rfl⟩
  rw [← hD] at HRN hdb
  have HDD := Lib.hid hD
  clear hD
  by_cases hlt : len - p0 < D
  · have HR1 := Lib.hid (HR.out.trans (sg_1 (by rw [HL.out, ← HDD.out]; exact hlt)))
    have hlt' : (len : Int) - (p0 : Int) < (D : Int) := by omega
    clear hlt
    go_enter Try.func59, Try.ntmps59
    go_wp2_with fail
    refine HRN.out.mono ?_
    rintro e w' ⟨rfl, rfl⟩
    go_wp2_with fail
    go_ret3
    rw [HR1.out]
    exact ⟨_, rfl, World.ownsRow_nil _ _ _ _, Ext.refl _⟩
  · have HLT := Lib.hid hlt
    have hlt' : ¬ (len : Int) - (p0 : Int) < (D : Int) := by omega
    have hpd : p0 + D ≤ len := by omega
    clear hlt
    go_enter Try.func59, Try.ntmps59
    go_wp2_with fail
    refine HRN.out.mono ?_
    rintro e w' ⟨rfl, rfl⟩
    go_wp2_with fail
    go_loopw [1, 12, 13, 14, 15, 16, 17, 18] (fun at' v _ _ _ _ _ _ wy => ∃ (r p : Nat) (done : List UInt8), p ≤ len ∧ at' = .int .i64 p ∧ Hid (done.length + r = n) ∧ done.length ≤ n ∧ wy.ownsRow w.heap.size 5 1 v done.length (byts done) ∧ Hid ((decD 2 r (bs.drop p)).map (done ++ ·) = decD 2 n (bs.drop p0)) ∧ Hid (p + dsize 2 r = p0 + D) ∧ Hid (Ext w wy)) (fun _ v _ _ _ _ _ _ _ => n - slLen v)
    case atStart =>
      refine ⟨n, p0, [], hp0, rfl, by show _ = _; simp, Nat.zero_le _, World.ownsRow_nil _ _ _ _, ?_, ?_, Ext.refl _⟩
      · show _ = _
        cases decD 2 n (bs.drop p0) <;> simp
      · show _ = _
        rw [← HDD.out]
    case round =>
      obtain ⟨r, p, done, hp, rfl, HDN, hdn, hown, HDC, HPP, HXW⟩ := hrel
      obtain ⟨so, sc, rfl, hso, hsm, _, _⟩ := own_row hown
      by_cases hr0 : done.length < n
      · obtain ⟨dl, hdl⟩ : ∃ dl, dl = done.length := ⟨_, rfl⟩
        have HDLn := Lib.hid hdl
        rw [← hdl] at hr0 hdn hown hso ⊢
        obtain ⟨K, hK⟩ : ∃ K : Nat, K = min r 2 := ⟨_, rfl⟩
        have hrd : r = n - dl := by have := HDN.out; omega
        have hmin : min (2 : Int) ((n : Int) - (dl : Int)) = (K : Int) := by omega
        have hK1 : 1 ≤ K := by omega
        have hK3 : K ≤ 3 := by omega
        have hKr : K ≤ n - dl := by omega
        have hSp : dsize 2 r = dsize 2 K + dsize 2 (r - K) := by rw [hK]; exact dsize_split 2 r rfl
        have hS11 : dsize 2 K ≤ 11 := dsize_unit 2 K rfl (by rw [hK]; exact Nat.min_le_right _ _)
        have hpp := HPP.out
        have hpS : p + dsize 2 K ≤ len := by omega
        have HPP2 : Hid (p + dsize 2 K + dsize 2 (r - K) = p0 + D) := by show _ = _; omega
        have HBAD : Hid (ungOk 2 (numN ((bs.drop p).take (dsize 2 K))) K = false → decD 2 n (bs.drop p0) = none) := by
          intro hb
          rw [← HDC.out, decD_bad 2 r (bs.drop p) (by omega) (by rw [show unitN 2 = 2 from rfl, ← hK]; exact hb)]
          rfl
        have HGOOD : Hid (ungOk 2 (numN ((bs.drop p).take (dsize 2 K))) K = true → (decD 2 (r - K) (bs.drop (p + dsize 2 K))).map ((done ++ ungV 2 (numN ((bs.drop p).take (dsize 2 K))) K) ++ ·) = decD 2 n (bs.drop p0)) := by
          intro hb
          rw [← HDC.out, decD_ok 2 r (bs.drop p) (by omega) (by rw [show unitN 2 = 2 from rfl, ← hK]; exact hb), show unitN 2 = 2 from rfl, ← hK, List.drop_drop]
          cases decD 2 (r - K) (bs.drop (p + dsize 2 K)) <;> simp
        have hVl : numN ((bs.drop p).take (dsize 2 K)) < 2 ^ dsize 2 K := by
          have h1 := numN_lt ((bs.drop p).take (dsize 2 K))
          rwa [List.length_take, List.length_drop, HL.out, Nat.min_eq_left (by omega)] at h1
        have hVb : numN ((bs.drop p).take (dsize 2 K)) ≤ 1048576 := by
          have : 2 ^ dsize 2 K ≤ 2 ^ 11 := Nat.pow_le_pow_right (by decide) hS11
          omega
        have HV4 : Hid ((2 : Int) = 4 → numN ((bs.drop p).take (dsize 2 K)) < 256) := by
          intro h4
          have : dsize 2 K ≤ 8 := by
            first
              | exact absurd h4 (by decide)
              | (rw [hK]; show 8 * min r 1 ≤ 8; omega)
          have h2 : 2 ^ dsize 2 K ≤ 2 ^ 8 := Nat.pow_le_pow_right (by decide) this
          omega
        have HRK := fun W => HRD W K (by omega)
        obtain ⟨S, hS⟩ : ∃ S, S = dsize 2 K := ⟨_, rfl⟩
        have HS := Lib.hid hS
        simp only [← hS] at HRK
        rw [← hS] at hS11 hpS HPP2 HBAD HGOOD hVl hVb HV4
        have HTK : Hid (takeRes bs p S = (num ((bs.drop p).take S), 0)) := by show _ = _; rw [takeRes_3 (by rw [HL.out]; omega) (by rw [HL.out]; omega)]; rfl
        obtain ⟨V, hV⟩ : ∃ V, V = numN ((bs.drop p).take S) := ⟨_, rfl⟩
        have HV : Hid (num ((bs.drop p).take S) = (V : Int)) := by show _ = _; rw [hV]; exact numN_num _
        rw [← hV] at HBAD HGOOD hVb HV4
        rw [HV.out] at HTK
        have HDN2 : Hid ((done ++ ungV 2 V K).length + (r - K) = n) := by show _ = _; rw [List.length_append, length_ungV]; have := HDN.out; omega
        have hdn2 : (done ++ ungV 2 V K).length ≤ n := by rw [List.length_append, length_ungV]; omega
        have HUK : Hid (K ≤ unitN 2) := by rw [hK]; exact Nat.min_le_right _ _
        clear hK hS hV hSp hpp hrd hdl hVl
        have HRW := Lib.hid (hr.ext HXW.out)
        have hwz := HXW.out.size
        go_wp2_with fail
        refine (HRK _).out.mono ?_
        rintro e w' ⟨rfl, rfl⟩
        go_wp2_with fail
        refine (rtake_any ao len cap bs p S _ HL.out (by omega) HRW.out).mono ?_
        rw [HTK.out]
        rintro e w' ⟨rfl, rfl⟩
        simp only [two]
        go_wp2_with fail
        refine (ungroup_any 2 V K _ rfl hVb hK1 HUK.out (fun h => by first | exact HV4.out h | exact HV4.out trivial)).mono ?_
        rintro e w8 ⟨s8, rfl, hown8, hx8⟩
        obtain ⟨so8, sc8, rfl, hso8, hsm8, _, hsr8⟩ := own_row hown8
        rw [length_byts, length_ungV] at hso8 ⊢
        have HN8 := Lib.hid (own_nil' hown8)
        have HSR8 := Lib.hid hsr8
        have HX8 := Lib.hid (HXW.out.trans hx8)
        have HOW8 := Lib.hid (own_extN hown hx8)
        clear hown8 hsr8 hx8 hown
        cases hok : ungOk 2 V K
        · have HR1 := Lib.hid (HR.out.trans (sg_2 (by rw [HL.out, ← HDD.out]; exact HLT.out) (HBAD.out hok)))
          clear hok
          go_wp2_with fail
          go_ret3
          rw [HR1.out]
          exact ⟨_, rfl, World.ownsRow_nil _ _ _ _, HX8.out⟩
        · have HGD := Lib.hid (HGOOD.out hok)
          have hown8 := HOW8.out
          have hB8 := HX8.out.size
          clear hok HBAD HGOOD
          go_wp2_with (at_builtin; refine wpList_app rfl _ _ 22 rfl w.heap.size 5 (.int .u8 0) 1 1 Try.infoByte rfl (by decide) Try.underlying22 _ rfl _ _ hown8 _ K sc8 rfl (byts (ungV 2 V K)) HSR8.out (by rw [length_byts, length_ungV]; omega) HN8.out (byts_oneCell _) (by omega) (by omega) hB8 ?_; intro s9 w9 hown9 hk9)
          have hown9' : w9.ownsRow w.heap.size 5 1 s9 (done ++ ungV 2 V K).length (byts (done ++ ungV 2 V K)) := by
            rw [List.length_append, length_ungV, byts_append, ← HDLn.out]; exact hown9
          have HX9 : Hid (Ext w w9) := Below.trans HX8.out (hk9.below hB8 (fun k hk => (hown8.lt k hk).1))
          have hsl : slLen s9 = dl + K := by
            obtain ⟨_, _, rfl, _⟩ := own_row hown9
            rfl
          clear hown9 hk9
          go_roundw
          case rel => exact ⟨r - K, p + S, done ++ ungV 2 V K, hpS, int_eq (by omega), HDN2, hdn2, hown9', HGD, HPP2, HX9⟩
          case measure => rw [hsl]; simp only [slLen]; omega
      · have hr0' : r = 0 := by have := HDN.out; omega
        subst hr0'
        have hd0 : decD 2 n (bs.drop p0) = some done := by
          have := HDC.out
          rw [decD_zero] at this
          simpa using this.symm
        have HR1 := Lib.hid (HR.out.trans (sg_3 (by rw [HL.out, ← HDD.out]; exact HLT.out) hd0))
        have HPE : Hid (p = p0 + D) := by have := HPP.out; rwa [dsize_zero] at this
        clear hd0
        go_wp2_with fail
        go_ret3
        rw [HR1.out, ← HDD.out, ← HPE.out]
        exact ⟨_, rfl, hown, HXW.out⟩
set_option maxRecDepth 20000 in
set_option maxHeartbeats 1600000 in
theorem segment_4 (ao : Option Addr) (len cap : Nat) (bs : List Bool) (p0 n : Nat) (w : World) (hl : bs.length = len) (hb : len ≤ 1048576) (hp0 : p0 ≤ len) (hn : n < 65536) (hr : Row w ao (bools bs)) :
    Calls Try.prog 59 #[.slice ao len cap, .int .i64 p0, .int .i64 4, .int .i64 n] w (SegPost w (segRes 4 bs p0 n)) := by
  have HL := Lib.hid hl
  obtain ⟨R, hR⟩ : ∃ R, R = segRes 4 bs p0 n := ⟨_, rfl⟩
  have HR := Lib.hid hR
  rw [← hR]
  clear hR hl
  have HRD := fun W (q : Nat) (hq : q ≤ 1099511627776) => Lib.hid (rdata_any 4 q W rfl hq)
  have HRN := Lib.hid (rdata_any 4 n w rfl (by omega))
  have hdb : dsize 4 n ≤ 11 * n + 7 := by unfold dsize; split <;> (try split) <;> (try split) <;> (try split) <;> omega
  obtain ⟨D, hD⟩ : ∃ D, D = dsize 4 n := ⟨_, rfl⟩
  rw [← hD] at HRN hdb
  have HDD := Lib.hid hD
  clear hD
  by_cases hlt : len - p0 < D
  · have HR1 := Lib.hid (HR.out.trans (sg_1 (by rw [HL.out, ← HDD.out]; exact hlt)))
    have hlt' : (len : Int) - (p0 : Int) < (D : Int) := by omega
    clear hlt
    go_enter Try.func59, Try.ntmps59
    go_wp2_with fail
    refine HRN.out.mono ?_
    rintro e w' ⟨rfl, rfl⟩
    go_wp2_with fail
    go_ret3
    rw [HR1.out]
    exact ⟨_, rfl, World.ownsRow_nil _ _ _ _, Ext.refl _⟩
  · have HLT := Lib.hid hlt
    have hlt' : ¬ (len : Int) - (p0 : Int) < (D : Int) := by omega
    have hpd : p0 + D ≤ len := by omega
    clear hlt
    go_enter Try.func59, Try.ntmps59
    go_wp2_with fail
    refine HRN.out.mono ?_
    rintro e w' ⟨rfl, rfl⟩
    go_wp2_with fail
    go_loopw [1, 12, 13, 14, 15, 16, 17, 18] (fun at' v _ _ _ _ _ _ wy => ∃ (r p : Nat) (done : List UInt8), p ≤ len ∧ at' = .int .i64 p ∧ Hid (done.length + r = n) ∧ done.length ≤ n ∧ wy.ownsRow w.heap.size 5 1 v done.length (byts done) ∧ Hid ((decD 4 r (bs.drop p)).map (done ++ ·) = decD 4 n (bs.drop p0)) ∧ Hid (p + dsize 4 r = p0 + D) ∧ Hid (Ext w wy)) (fun _ v _ _ _ _ _ _ _ => n - slLen v)
    case atStart =>
      refine ⟨n, p0, [], hp0, rfl, by show _ = _; simp, Nat.zero_le _, World.ownsRow_nil _ _ _ _, ?_, ?_, Ext.refl _⟩
      · show _ = _
        cases decD 4 n (bs.drop p0) <;> simp
      · show _ = _
        rw [← HDD.out]
    case round =>
      obtain ⟨r, p, done, hp, rfl, HDN, hdn, hown, HDC, HPP, HXW⟩ := hrel
      obtain ⟨so, sc, rfl, hso, hsm, _, _⟩ := own_row hown
      by_cases hr0 : done.length < n
      · obtain ⟨dl, hdl⟩ : ∃ dl, dl = done.length := ⟨_, rfl⟩
        have HDLn := Lib.hid hdl
        rw [← hdl] at hr0 hdn hown hso ⊢
        obtain ⟨K, hK⟩ : ∃ K : Nat, K = min r 1 := ⟨_, rfl⟩
        have hrd : r = n - dl := by have := HDN.out; omega
        have hmin : min (1 : Int) ((n : Int) - (dl : Int)) = (K : Int) := by omega
        have hK1 : 1 ≤ K := by omega
        have hK3 : K ≤ 3 := by omega
        have hKr : K ≤ n - dl := by omega
        have hSp : dsize 4 r = dsize 4 K + dsize 4 (r - K) := by rw [hK]; exact dsize_split 4 r rfl
        have hS11 : dsize 4 K ≤ 11 := dsize_unit 4 K rfl (by rw [hK]; exact Nat.min_le_right _ _)
        have hpp := HPP.out
        have hpS : p + dsize 4 K ≤ len := by omega
        have HPP2 : Hid (p + dsize 4 K + dsize 4 (r - K) = p0 + D) := by show _ = _; omega
        have HBAD : Hid (ungOk 4 (numN ((bs.drop p).take (dsize 4 K))) K = false → decD 4 n (bs.drop p0) = none) := by
          intro hb
          rw [← HDC.out, decD_bad 4 r (bs.drop p) (by omega) (by rw [show unitN 4 = 1 from rfl, ← hK]; exact hb)]
          rfl
        have HGOOD : Hid (ungOk 4 (numN ((bs.drop p).take (dsize 4 K))) K = true → (decD 4 (r - K) (bs.drop (p + dsize 4 K))).map ((done ++ ungV 4 (numN ((bs.drop p).take (dsize 4 K))) K) ++ ·) = decD 4 n (bs.drop p0)) := by
          intro hb
          rw [← HDC.out, decD_ok 4 r (bs.drop p) (by omega) (by rw [show unitN 4 = 1 from rfl, ← hK]; exact hb), show unitN 4 = 1 from rfl, ← hK, List.drop_drop]
          cases decD 4 (r - K) (bs.drop (p + dsize 4 K)) <;> simp
        have hVl : numN ((bs.drop p).take (dsize 4 K)) < 2 ^ dsize 4 K := by
          have h1 := numN_lt ((bs.drop p).take (dsize 4 K))
          rwa [List.length_take, List.length_drop, HL.out, Nat.min_eq_left (by omega)] at h1
        have hVb : numN ((bs.drop p).take (dsize 4 K)) ≤ 1048576 := by
          have : 2 ^ dsize 4 K ≤ 2 ^ 11 := Nat.pow_le_pow_right (by decide) hS11
          omega
        have HV4 : Hid ((4 : Int) = 4 → numN ((bs.drop p).take (dsize 4 K)) < 256) := by
          intro h4
          have : dsize 4 K ≤ 8 := by
            first
              | exact absurd h4 (by decide)
              | (rw [hK]; show 8 * min r 1 ≤ 8; omega)
          have h2 : 2 ^ dsize 4 K ≤ 2 ^ 8 := Nat.pow_le_pow_right (by decide) this
          omega
        have HRK := fun W => HRD W K (by omega)
        obtain ⟨S, hS⟩ : ∃ S, S = dsize 4 K := ⟨_, rfl⟩
        have HS := Lib.hid hS
        simp only [← hS] at HRK
        rw [← hS] at hS11 hpS HPP2 HBAD HGOOD hVl hVb HV4
        have HTK : Hid (takeRes bs p S = (num ((bs.drop p).take S), 0)) := by show _ = _; rw [takeRes_3 (by rw [HL.out]; omega) (by rw [HL.out]; omega)]; rfl
        obtain ⟨V, hV⟩ : ∃ V, V = numN ((bs.drop p).take S) := ⟨_, rfl⟩
        have HV : Hid (num ((bs.drop p).take S) = (V : Int)) := by show _ = _; rw [hV]; exact numN_num _
        rw [← hV] at HBAD HGOOD hVb HV4
        rw [HV.out] at HTK
        have HDN2 : Hid ((done ++ ungV 4 V K).length + (r - K) = n) := by show _ = _; rw [List.length_append, length_ungV]; have := HDN.out; omega
        have hdn2 : (done ++ ungV 4 V K).length ≤ n := by rw [List.length_append, length_ungV]; omega
        have HUK : Hid (K ≤ unitN 4) := by rw [hK]; exact Nat.min_le_right _ _
        clear hK hS hV hSp hpp hrd hdl hVl
        have HRW := Lib.hid (hr.ext HXW.out)
        have hwz := HXW.out.size
        go_wp2_with fail
        refine (HRK _).out.mono ?_
        rintro e w' ⟨rfl, rfl⟩
        go_wp2_with fail
        refine (rtake_any ao len cap bs p S _ HL.out (by omega) HRW.out).mono ?_
        rw [HTK.out]
        rintro e w' ⟨rfl, rfl⟩
        simp only [two]
        go_wp2_with fail
        refine (ungroup_any 4 V K _ rfl hVb hK1 HUK.out (fun h => by first | exact HV4.out h | exact HV4.out trivial)).mono ?_
        rintro e w8 ⟨s8, rfl, hown8, hx8⟩
        obtain ⟨so8, sc8, rfl, hso8, hsm8, _, hsr8⟩ := own_row hown8
        rw [length_byts, length_ungV] at hso8 ⊢
        have HN8 := Lib.hid (own_nil' hown8)
        have HSR8 := Lib.hid hsr8
        have HX8 := Lib.hid (HXW.out.trans hx8)
        have HOW8 := Lib.hid (own_extN hown hx8)
        clear hown8 hsr8 hx8 hown
        cases hok : ungOk 4 V K
        · have HR1 := Lib.hid (HR.out.trans (sg_2 (by rw [HL.out, ← HDD.out]; exact HLT.out) (HBAD.out hok)))
          clear hok
          go_wp2_with fail
          go_ret3
          rw [HR1.out]
          exact ⟨_, rfl, World.ownsRow_nil _ _ _ _, HX8.out⟩
        · have HGD := Lib.hid (HGOOD.out hok)
          have hown8 := HOW8.out
          have hB8 := HX8.out.size
          clear hok HBAD HGOOD
          go_wp2_with (at_builtin; refine wpList_app rfl _ _ 22 rfl w.heap.size 5 (.int .u8 0) 1 1 Try.infoByte rfl (by decide) Try.underlying22 _ rfl _ _ hown8 _ K sc8 rfl (byts (ungV 4 V K)) HSR8.out (by rw [length_byts, length_ungV]; omega) HN8.out (byts_oneCell _) (by omega) (by omega) hB8 ?_; intro s9 w9 hown9 hk9)
          have hown9' : w9.ownsRow w.heap.size 5 1 s9 (done ++ ungV 4 V K).length (byts (done ++ ungV 4 V K)) := by
            rw [List.length_append, length_ungV, byts_append, ← HDLn.out]; exact hown9
          have HX9 : Hid (Ext w w9) := Below.trans HX8.out (hk9.below hB8 (fun k hk => (hown8.lt k hk).1))
          have hsl : slLen s9 = dl + K := by
            obtain ⟨_, _, rfl, _⟩ := own_row hown9
            rfl
          clear hown9 hk9
          go_roundw
          case rel => exact ⟨r - K, p + S, done ++ ungV 4 V K, hpS, int_eq (by omega), HDN2, hdn2, hown9', HGD, HPP2, HX9⟩
          case measure => rw [hsl]; simp only [slLen]; omega
      · have hr0' : r = 0 := by have := HDN.out; omega
        subst hr0'
        have hd0 : decD 4 n (bs.drop p0) = some done := by
          have := HDC.out
          rw [decD_zero] at this
          simpa using this.symm
        have HR1 := Lib.hid (HR.out.trans (sg_3 (by rw [HL.out, ← HDD.out]; exact HLT.out) hd0))
        have HPE : Hid (p = p0 + D) := by have := HPP.out; rwa [dsize_zero] at this
        clear hd0
        go_wp2_with fail
        go_ret3
        rw [HR1.out, ← HDD.out, ← HPE.out]
        exact ⟨_, rfl, hown, HXW.out⟩

theorem segment_any (m : Int) (hm : okMode m = true) (ao : Option Addr) (len cap : Nat) (bs : List Bool) (p0 n : Nat) (w : World) (hl : bs.length = len) (hb : len ≤ 1048576) (hp0 : p0 ≤ len) (hn : n < 65536) (hr : Row w ao (bools bs)) :
    Calls Try.prog 59 #[.slice ao len cap, .int .i64 p0, .int .i64 m, .int .i64 n] w (SegPost w (segRes m bs p0 n)) := by
  rcases okMode_cases m with rfl | rfl | rfl | ⟨h, _⟩
  · exact segment_1 ao len cap bs p0 n w hl hb hp0 hn hr
  · exact segment_2 ao len cap bs p0 n w hl hb hp0 hn hr
  · exact segment_4 ao len cap bs p0 n w hl hb hp0 hn hr
  · rw [hm] at h; cases h

theorem num_zero (l : List Bool) : num l = 0 ↔ ∀ i (h : i < l.length), l[i] = false := by
  induction l using snoc_ind with
  | h0 => simp [num]
  | h1 l b ih =>
    rw [num_snoc]
    have hb := (num_bd l).1
    constructor
    · intro h i hi
      have h1 : num l = 0 := by split at h <;> omega
      have h2 : b = false := by cases b <;> simp_all
      by_cases e : i < l.length
      · rw [List.getElem_append_left e]; exact (ih.1 h1) i e
      · rw [List.getElem_append_right (by omega)]; simp [h2]
    · intro h
      have h1 : num l = 0 := ih.2 (fun i hi => by have := h i (by simp; omega); rwa [List.getElem_append_left hi] at this)
      have h2 := h l.length (by simp)
      simp at h2
      simp [h1, h2]

/-- reading, in terms of segment. -/
theorem read_seg (m : Int) (k : Nat) (bs : List Bool) (p : Nat) (hp : p ≤ bs.length) :
    (bs.length < p + cntB m k → readRes m k (bs.drop p) = ([], 10, [])) ∧
    (p + cntB m k ≤ bs.length → (readRes m k (bs.drop p)).1 = (segRes m bs (p + cntB m k) (numN ((bs.drop p).take (cntB m k)))).1 ∧ (readRes m k (bs.drop p)).2.1 = (segRes m bs (p + cntB m k) (numN ((bs.drop p).take (cntB m k)))).2.2 ∧
      ((readRes m k (bs.drop p)).2.1 = 0 → ∃ q : Nat, (segRes m bs (p + cntB m k) (numN ((bs.drop p).take (cntB m k)))).2.1 = (q : Int) ∧ q ≤ bs.length ∧ p < q ∧ (readRes m k (bs.drop p)).2.2 = bs.drop q)) := by
  have hc := cntB_pos m k
  refine ⟨fun h => rd_1 (by rw [List.length_drop]; omega), fun h => ?_⟩
  have hnl : ¬ (bs.drop p).length < cntB m k := by rw [List.length_drop]; omega
  by_cases h2 : bs.length - (p + cntB m k) < dsize m (numN ((bs.drop p).take (cntB m k)))
  · rw [rd_2 hnl (by rw [List.length_drop, List.length_drop]; omega), sg_1 h2]
    exact ⟨rfl, rfl, fun h0 => by simp at h0⟩
  · have h2' : ¬ ((bs.drop p).drop (cntB m k)).length < dsize m (numN ((bs.drop p).take (cntB m k))) := by rw [List.length_drop, List.length_drop]; omega
    cases h3 : decD m (numN ((bs.drop p).take (cntB m k))) (bs.drop (p + cntB m k)) with
    | none =>
      rw [rd_3 hnl h2' (by rw [List.drop_drop]; exact h3), sg_2 h2 h3]
      exact ⟨rfl, rfl, fun h0 => by simp at h0⟩
    | some d =>
      rw [rd_4 hnl h2' (by rw [List.drop_drop]; exact h3), sg_3 h2 h3]
      exact ⟨rfl, rfl, fun _ => ⟨_, rfl, by omega, by omega, by simp only [List.drop_drop, Nat.add_assoc]⟩⟩

end Go.Proofs.Ythebfpolijajgaa
