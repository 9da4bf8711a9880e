/-
  Plain: the smallest version; the contract of qrversion.Smallest.
  Conditions: the slice's cells are those of the list.
The contract of the reference's Smallest.
  Conditions: the slice's cells are those of the list.
-/
import Derived.Test.YthebfpolijajgaaBestC
import Derived.Test.YthebfpolijajgaaVerD
import Derived.Test.YthebfpolijajgaaRefA
namespace Go.Proofs.Ythebfpolijajgaa
open Go.RowKit Go.Bs Go.Mode Go.Qrv

def cls (v : Nat) : Nat := if v ≤ 9 then 0 else if v ≤ 26 then 1 else 2
theorem cls_le (v : Nat) : cls v ≤ 2 := by unfold cls; split <;> (try split) <;> omega
def okV (p : List UInt8) (l : Nat) (x : Int) (v : Nat) : Prop := x ≤ 8 * (dataN v l : Int) - ((plan (cls v) p).bits : Int)
instance (p : List UInt8) (l : Nat) (x : Int) (v : Nat) : Decidable (okV p l x v) := by unfold okV; infer_instance
/-- The smallest version from v on, f of them. -/
def smF (p : List UInt8) (l : Nat) (x : Int) : Nat → Nat → Int × List SegD × Int
  | 0, _ => (0, [], 16)
  | f + 1, v => if okV p l x v then ((v : Int), bestL (cls v) p, 0) else smF p l x f (v + 1)
def smRes (p : List UInt8) (l x : Int) : Int × List SegD × Int :=
  if l < 1 ∨ 4 < l then (0, [], 15) else if x < 0 then (0, [], 3) else if 4096 < p.length then (0, [], 4) else smF p l.toNat x 40 1
/-- A version, segments and an error's number are returned. -/
def RetSm (w : World) (r : Int × List SegD × Int) (e : Ending) (w' : World) : Prop :=
  ∃ ao cap, e = .returned (.tuple #[.int .i64 r.1, .slice ao r.2.1.length cap, .int .i64 r.2.2]) ∧ SegsN w' w.heap.size ao r.2.1 ∧ r.2.1.length ≤ cap ∧ cap ≤ 9223372036854775807 ∧ Ext w w'
theorem RetSm.nil (w w' : World) (c : Int) (h : Ext w w') : RetSm w (0, [], c) (.returned (.tuple #[.int .i64 0, .slice none 0 0, .int .i64 c])) w' :=
  ⟨none, 0, rfl, SegsN.nil _ _ _, Nat.le_refl _, by decide, h⟩
theorem SegsN.ext {w w' : World} {B : Nat} {ao : Option Addr} {l : List SegD} (h : SegsN w B ao l) (hx : Ext w w') : SegsN w' B ao l := h.kept fun k _ hk => hx.block k hk
theorem SegsN.base {w : World} {B B' : Nat} {ao : Option Addr} {l : List SegD} (h : SegsN w B ao l) (hb : B' ≤ B) : SegsN w B' ao l := by
  intro i p hi
  obtain ⟨b, off, v, h1, h2, h3, h4, ao', cap, h5, h6, h7, h8, h9, h10⟩ := h i p hi
  exact ⟨b, off, v, h1, by omega, h3, h4, ao', cap, h5, h6, h7, h8, h9, fun a ha => Nat.le_trans hb (h10 a ha)⟩
theorem cl_res (v : Nat) (h1 : 1 ≤ v) (h2 : v ≤ 40) : clRes v = ((cls v : Int), 0) := by
  unfold clRes cls
  rw [if_neg (by omega)]
  by_cases a : v ≤ 9
  · rw [if_pos (by omega), if_pos a]; rfl
  · rw [if_neg (by omega), if_neg a]
    by_cases b : v ≤ 26
    · rw [if_pos (by omega), if_pos b]; rfl
    · rw [if_neg (by omega), if_neg b]; rfl
theorem data_le (v l : Nat) (h1 : 1 ≤ v) (h2 : v ≤ 40) (h3 : 1 ≤ l ∧ l ≤ 4) : dataN v l ≤ 3706 := by
  have key : ∀ a : Fin 41, ∀ b : Fin 5, dataN a.val b.val ≤ 3706 := by decide +kernel
  exact key ⟨v, by omega⟩ ⟨l, by omega⟩
/-- What is at hand when the last version tried was v: the class and its best segments. -/
def Held (w wr : World) (p : List UInt8) (v : Nat) (last segs size : Value) : Prop :=
  (v = 0 ∧ last = .int .i64 (-1)) ∨ (1 ≤ v ∧ last = .int .i64 (cls v) ∧ ∃ ao cap, segs = .slice ao (bestL (cls v) p).length cap ∧ size = .int .i64 (plan (cls v) p).bits ∧ SegsN wr w.heap.size ao (bestL (cls v) p) ∧ (bestL (cls v) p).length ≤ cap ∧ cap ≤ 9223372036854775807)

set_option maxRecDepth 20000 in
set_option maxHeartbeats 2000000 in
theorem smallest_any (ao : Option Addr) (len cap : Nat) (p : List UInt8) (lv x : Int) (w : World) (hl : p.length = len) (hlc : len ≤ cap) (hb : cap ≤ 9223372036854775807) (hn0 : ao = none → cap = 0) (hr : Row w ao (byts p)) (_ : x ≤ 9223372036854775807) :
    Calls Try.prog 15 #[.slice ao len cap, .int .i64 lv, .int .i64 x] w (RetSm w (smRes p lv x)) := by
  have HL := Lib.hid hl
  by_cases h1 : lv < 1 ∨ 4 < lv
  · rw [show smRes p lv x = (0, [], 15) from by unfold smRes; rw [if_pos h1]]
    rcases h1 with h1 | h1
    · go_enter Try.func15, Try.ntmps15
      go_wp2_with fail
      go_ret3
      exact RetSm.nil _ _ _ (Ext.refl _)
    · have h1' : ¬ lv < 1 := by omega
      go_enter Try.func15, Try.ntmps15
      go_wp2_with fail
      go_ret3
      exact RetSm.nil _ _ _ (Ext.refl _)
  · obtain ⟨l, rfl⟩ : ∃ l : Nat, lv = l := ⟨lv.toNat, by omega⟩
    have hl1 : 1 ≤ l ∧ l ≤ 4 := by omega
    by_cases h2 : x < 0
    · rw [show smRes p l x = (0, [], 3) from by unfold smRes; rw [if_neg h1, if_pos h2]]
      clear h1
      go_enter Try.func15, Try.ntmps15
      go_wp2_with fail
      go_ret3
      exact RetSm.nil _ _ _ (Ext.refl _)
    · obtain ⟨R, hR⟩ : ∃ R, R = smRes p l x := ⟨_, rfl⟩
      rw [← hR]
      have HBIG : Hid (4096 < len → R = (0, [], 4)) := fun h => by rw [hR]; unfold smRes; rw [if_neg h1, if_neg h2, if_pos (by rw [HL.out]; exact h)]
      have HSML : Hid (len ≤ 4096 → smF p l x 40 1 = R) := fun h => by rw [hR]; unfold smRes; rw [if_neg h1, if_neg h2, if_neg (by rw [HL.out]; omega)]; simp
      have HR := Lib.hid hr
      have HN0 := Lib.hid hn0
      clear h1 hR hl hr hn0
      by_cases hbig : 4096 < len
      · have HRR := Lib.hid (HBIG.out hbig)
        have HBE : Hid (bestRes p ((0 : Nat) : Int) = ([], 0, 4)) := by refine Lib.hid ?_; unfold bestRes; rw [if_neg (by decide), if_pos (by rw [HL.out]; exact hbig)]
        go_enter Try.func15, Try.ntmps15
        go_wp2_with fail
        go_loopw [9, 10, 11, 12, 13, 14, 15, 16, 17] (fun last _ _ ver _ _ _ _ _ wr => ver = .int .i64 1 ∧ last = .int .i64 (-1) ∧ Hid (Ext w wr)) (fun _ _ _ _ _ _ _ _ _ _ => 0)
        case atStart => exact ⟨rfl, rfl, Ext.refl _⟩
        case round =>
          obtain ⟨rfl, rfl, HX⟩ := hrel
          go_wp2_with fail
          refine (class_any _ _).mono ?_
          rw [show clRes 1 = (0, 0) from rfl]
          rintro e w1 ⟨rfl, rfl⟩
          simp only [two]
          go_wp2_with fail
          refine (best_any ao len cap p 0 wr HL.out hlc hb HN0.out (HR.out.ext HX.out)).mono ?_
          rw [show bestRes p 0 = ([], 0, 4) from HBE.out]
          rintro e w2 ⟨sao, scap, rfl, hs2, hcl2, hcm2, hx2⟩
          simp only
          go_wp2_with fail
          go_ret3
          rw [HRR.out]
          exact RetSm.nil _ _ _ (HX.out.trans hx2)
      · have HSM0 := Lib.hid (HSML.out (by omega))
        go_enter Try.func15, Try.ntmps15
        go_wp2_with fail
        go_loopw [9, 10, 11, 12, 13, 14, 15, 16, 17] (fun last segs size ver _ _ _ _ _ wr => ∃ v : Nat, 1 ≤ v ∧ v ≤ 41 ∧ ver = .int .i64 v ∧ Hid (Held w wr p (v - 1) last segs size) ∧ Hid (smF p l x (41 - v) v = R) ∧ Hid (Ext w wr)) (fun _ _ _ ver _ _ _ _ _ _ => 41 - (intOf ver).toNat)
        case atStart => exact ⟨1, by omega, by omega, rfl, Or.inl ⟨rfl, rfl⟩, HSM0, Ext.refl _⟩
        case round =>
          clear HSM0
          obtain ⟨v, hv1, hv2, rfl, HH, HSM, HX⟩ := hrel
          by_cases hlt : v ≤ 40
          · have HCL := Lib.hid (cl_res v hv1 hlt)
            have HCP : Hid (cpRes v l = ((dataN v l : Int), 0)) := cpRes_3 (by unfold inV; omega) hl1
            have hdb := data_le v l hv1 hlt hl1
            obtain ⟨dt, hdt⟩ : ∃ dt, dt = dataN v l := ⟨_, rfl⟩
            rw [← hdt] at hdb HCP
            have HDT := Lib.hid hdt
            have hbb := plan_bd (cls v) p.length p rfl
            have hbb2 : (plan (cls v) p).bits ≤ 114688 := by have := HL.out; omega
            obtain ⟨bt, hbt⟩ : ∃ bt, bt = (plan (cls v) p).bits := ⟨_, rfl⟩
            rw [← hbt] at hbb2
            have HBT := Lib.hid hbt
            have hcv := cls_le v
            obtain ⟨cv, hcve⟩ : ∃ cv, cv = cls v := ⟨_, rfl⟩
            have HBE : Hid (bestRes p ((cv : Nat) : Int) = (bestL (cls v) p, (bt : Int), 0)) := by
              refine Lib.hid ?_
              rw [hcve]
              unfold bestRes
              rw [if_neg (by omega), if_neg (by rw [HL.out]; omega), hbt]
              simp
            rw [← hcve] at HCL hcv
            have HCV := Lib.hid hcve
            obtain ⟨nl, hnl⟩ : ∃ nl, nl = (bestL (cls v) p).length := ⟨_, rfl⟩
            have HNL := Lib.hid hnl
            clear hdt hbt hcve hnl hbb
            by_cases hsame : 2 ≤ v ∧ cls (v - 1) = cls v
            · obtain ⟨h2v, hse⟩ := hsame
              rcases HH.out with ⟨h, _⟩ | ⟨_, h, sao, scap, hg1, hg2, hs2, hcl2, hcm2⟩
              · omega
              · rw [hse] at h hg1 hg2 hs2 hcl2
                rw [← HCV.out] at h
                rw [← HBT.out] at hg2
                rw [← HNL.out] at hg1 hcl2
                subst h hg1 hg2
                have HS2 := Lib.hid hs2
                have HX2 := HX
                clear hs2 hse HH
                have hne : ((cv : Int) != (cv : Int)) = false := by simp
                go_wp2_with fail
                refine (class_any _ _).mono ?_
                rw [HCL.out]
                rintro e w1 ⟨rfl, rfl⟩
                simp only [two]
                go_wp2_with fail
                skip
                refine (capacity_any _ _ _).mono ?_
                rw [HCP.out]
                rintro e w3 ⟨rfl, hx3⟩
                simp only [two]
                have HS3 := Lib.hid (HS2.out.ext hx3)
                have HX3 := Lib.hid (HX2.out.trans hx3)
                clear hx3
                by_cases hok : okV p l x v
                · have hdk : decide (x ≤ 8 * (dt : Int) - (bt : Int)) = true := by have h := hok; unfold okV at h; rw [← HDT.out, ← HBT.out] at h; simpa using h
                  have HRR : Hid (R = ((v : Int), bestL (cls v) p, 0)) := by
                    refine Lib.hid ?_
                    rw [← HSM.out]
                    obtain ⟨f, hf⟩ : ∃ f, 41 - v = f + 1 := ⟨40 - v, by omega⟩
                    rw [hf]
                    simp only [smF, if_pos hok]
                  clear hok
                  go_wp2_with fail
                  go_ret3
                  rw [HRR.out]
                  rw [HNL.out] at hcl2
                  refine ⟨sao, scap, by rw [HNL.out]; rfl, HS3.out, hcl2, hcm2, HX3.out⟩
                · have hdk : decide (x ≤ 8 * (dt : Int) - (bt : Int)) = false := by have h := hok; unfold okV at h; rw [← HDT.out, ← HBT.out] at h; simpa using h
                  have HRR : Hid (smF p l x (41 - (v + 1)) (v + 1) = R) := by
                    refine Lib.hid ?_
                    rw [← HSM.out]
                    obtain ⟨f, hf⟩ : ∃ f, 41 - v = f + 1 := ⟨40 - v, by omega⟩
                    rw [hf, show 41 - (v + 1) = f by omega]
                    simp only [smF, if_neg hok]
                  clear hok
                  go_wp2_with fail
                  refine ⟨⟨v + 1, by omega, by omega, by rw [Int.natCast_succ], Lib.hid (Or.inr ⟨by omega, by rw [Nat.add_sub_cancel, HCV.out], sao, scap, by rw [Nat.add_sub_cancel, HNL.out], by rw [Nat.add_sub_cancel, HBT.out], by rw [Nat.add_sub_cancel]; exact HS3.out, by rw [Nat.add_sub_cancel, ← HNL.out]; exact hcl2, hcm2⟩), HRR, HX3⟩, by simp [intOf]; omega⟩
            · have HNS : Hid (∃ la : Int, u9 = .int .i64 la ∧ ((cv : Int) != la) = true) := by
                rcases HH.out with ⟨_, h⟩ | ⟨h0, h, _⟩
                · exact ⟨-1, h, by simp <;> omega⟩
                · refine ⟨_, h, ?_⟩
                  have : cls (v - 1) ≠ cls v := fun e => hsame ⟨by omega, e⟩
                  rw [HCV.out]
                  simp
                  omega
              obtain ⟨la, hla, hla2⟩ := HNS.out
              subst hla
              clear hsame HH HNS
              go_wp2_with fail
              refine (class_any _ _).mono ?_
              rw [HCL.out]
              rintro e w1 ⟨rfl, rfl⟩
              simp only [two]
              go_wp2_with fail
              refine (best_any ao len cap p cv wr HL.out hlc hb HN0.out (HR.out.ext HX.out)).mono ?_
              rw [HBE.out]
              rintro e w2 ⟨sao, scap, rfl, hs2, hcl2, hcm2, hx2⟩
              simp only at hs2 hcl2 ⊢
              have HS2 := Lib.hid (hs2.base HX.out.size)
              have HX2 := Lib.hid (HX.out.trans hx2)
              rw [← HNL.out] at hcl2 ⊢
              clear hs2 hx2
              go_wp2_with fail
              skip
              refine (capacity_any _ _ _).mono ?_
              rw [HCP.out]
              rintro e w3 ⟨rfl, hx3⟩
              simp only [two]
              have HS3 := Lib.hid (HS2.out.ext hx3)
              have HX3 := Lib.hid (HX2.out.trans hx3)
              clear hx3
              by_cases hok : okV p l x v
              · have hdk : decide (x ≤ 8 * (dt : Int) - (bt : Int)) = true := by have h := hok; unfold okV at h; rw [← HDT.out, ← HBT.out] at h; simpa using h
                have HRR : Hid (R = ((v : Int), bestL (cls v) p, 0)) := by
                  refine Lib.hid ?_
                  rw [← HSM.out]
                  obtain ⟨f, hf⟩ : ∃ f, 41 - v = f + 1 := ⟨40 - v, by omega⟩
                  rw [hf]
                  simp only [smF, if_pos hok]
                clear hok
                go_wp2_with fail
                go_ret3
                rw [HRR.out]
                rw [HNL.out] at hcl2
                refine ⟨sao, scap, by rw [HNL.out]; rfl, HS3.out, hcl2, hcm2, HX3.out⟩
              · have hdk : decide (x ≤ 8 * (dt : Int) - (bt : Int)) = false := by have h := hok; unfold okV at h; rw [← HDT.out, ← HBT.out] at h; simpa using h
                have HRR : Hid (smF p l x (41 - (v + 1)) (v + 1) = R) := by
                  refine Lib.hid ?_
                  rw [← HSM.out]
                  obtain ⟨f, hf⟩ : ∃ f, 41 - v = f + 1 := ⟨40 - v, by omega⟩
                  rw [hf, show 41 - (v + 1) = f by omega]
                  simp only [smF, if_neg hok]
                clear hok
                go_wp2_with fail
                refine ⟨⟨v + 1, by omega, by omega, by rw [Int.natCast_succ], Lib.hid (Or.inr ⟨by omega, by rw [Nat.add_sub_cancel, HCV.out], sao, scap, by rw [Nat.add_sub_cancel, HNL.out], by rw [Nat.add_sub_cancel, HBT.out], by rw [Nat.add_sub_cancel]; exact HS3.out, by rw [Nat.add_sub_cancel, ← HNL.out]; exact hcl2, hcm2⟩), HRR, HX3⟩, by simp [intOf]; omega⟩
          · obtain rfl : v = 41 := by omega
            have HRR : Hid (R = (0, [], 16)) := HSM.out.symm
            go_wp2_with fail
            go_ret3
            rw [HRR.out]
            exact RetSm.nil _ _ _ HX.out


def frst (c : Int) : Nat := if c = 0 then 1 else if c = 1 then 10 else if c = 2 then 27 else 41
theorem cls_0 {v : Nat} (h : v < 10) : cls v = 0 := by unfold cls; rw [if_pos (by omega)]
theorem cls_1 {v : Nat} (h : 10 ≤ v) (h2 : v < 27) : cls v = 1 := by unfold cls; rw [if_neg (by omega), if_pos (by omega)]
theorem cls_2 {v : Nat} (h : 27 ≤ v) : cls v = 2 := by unfold cls; rw [if_neg (by omega), if_neg (by omega)]


set_option maxRecDepth 20000 in
set_option maxHeartbeats 2000000 in
theorem rsmallest_any (ao : Option Addr) (len cap : Nat) (p : List UInt8) (lv x : Int) (w : World) (hl : p.length = len) (hlc : len ≤ cap) (hb : cap ≤ 9223372036854775807) (hr : Row w ao (byts p)) :
    Calls Try.prog 16 #[.slice ao len cap, .int .i64 lv, .int .i64 x] w (RetSm w (smRes p lv x)) := by
  have HL := Lib.hid hl
  by_cases h1 : lv < 1 ∨ 4 < lv
  · rw [show smRes p lv x = (0, [], 15) from by unfold smRes; rw [if_pos h1]]
    rcases h1 with h1 | h1
    · go_enter Try.func16, Try.ntmps16
      go_wp2_with fail
      go_ret3
      exact RetSm.nil _ _ _ (Ext.refl _)
    · have h1' : ¬ lv < 1 := by omega
      go_enter Try.func16, Try.ntmps16
      go_wp2_with fail
      go_ret3
      exact RetSm.nil _ _ _ (Ext.refl _)
  · obtain ⟨l, rfl⟩ : ∃ l : Nat, lv = l := ⟨lv.toNat, by omega⟩
    have hl1 : 1 ≤ l ∧ l ≤ 4 := by omega
    by_cases h2 : x < 0
    · rw [show smRes p l x = (0, [], 3) from by unfold smRes; rw [if_neg h1, if_pos h2]]
      clear h1
      go_enter Try.func16, Try.ntmps16
      go_wp2_with fail
      go_ret3
      exact RetSm.nil _ _ _ (Ext.refl _)
    · obtain ⟨R, hR⟩ : ∃ R, R = smRes p l x := ⟨_, rfl⟩
      rw [← hR]
      have HBIG : Hid (4096 < len → R = (0, [], 4)) := fun h => by rw [hR]; unfold smRes; rw [if_neg h1, if_neg h2, if_pos (by rw [HL.out]; exact h)]
      have HSML : Hid (len ≤ 4096 → smF p l x 40 1 = R) := fun h => by rw [hR]; unfold smRes; rw [if_neg h1, if_neg h2, if_neg (by rw [HL.out]; omega)]; simp
      have HR := Lib.hid hr
      clear h1 hR hl hr
      by_cases hbig : 4096 < len
      · have HRR := Lib.hid (HBIG.out hbig)
        have HBE : Hid (bestRes p 0 = ([], 0, 4)) := by refine Lib.hid ?_; unfold bestRes; rw [if_neg (by decide), if_pos (by rw [HL.out]; exact hbig)]
        go_enter Try.func16, Try.ntmps16
        go_wp2_with fail
        go_loopw [10, 11, 12, 13, 14, 15, 16] (fun c _ _ _ _ _ _ wr => c = .int .i64 0 ∧ Hid (Ext w wr)) (fun _ _ _ _ _ _ _ _ => 0)
        case atStart => exact ⟨rfl, Ext.alloc _ _⟩
        case round =>
          obtain ⟨rfl, HX⟩ := hrel
          go_wp2_with fail
          refine (rbest_any ao len cap p 0 wr HL.out hlc hb (HR.out.ext HX.out)).mono ?_
          rw [HBE.out]
          rintro e w2 ⟨sao, scap, rfl, hs2, hcl2, hcm2, hx2⟩
          simp only
          go_wp2_with fail
          go_ret3
          rw [HRR.out]
          exact RetSm.nil _ _ _ (HX.out.trans hx2)
      · have HSM0 := Lib.hid (HSML.out (by omega))
        go_enter Try.func16, Try.ntmps16
        go_wp2_with fail
        go_loopw [10, 11, 12, 13, 14, 15, 16] (fun ci _ _ _ _ _ _ wr => ∃ c : Int, 0 ≤ c ∧ c ≤ 3 ∧ ci = .int .i64 c ∧ Hid (smF p l x (41 - frst c) (frst c) = R) ∧ Hid (Ext (w.alloc (.cells #[.int .i64 1, .int .i64 10, .int .i64 27, .int .i64 41] 3)) wr)) (fun ci _ _ _ _ _ _ _ => 3 - (intOf ci).toNat)
        case atStart => exact ⟨0, by decide, by decide, rfl, HSM0, Ext.refl _⟩
        case round =>
          clear HSM0
          obtain ⟨c, hc1, hc2, rfl, HSM, HX⟩ := hrel
          obtain rfl | rfl | rfl | rfl : c = 0 ∨ c = 1 ∨ c = 2 ∨ c = 3 := by omega
          · skip
            have HBE : Hid (bestRes p 0 = (bestL 0 p, ((plan 0 p).bits : Int), 0)) := by
              refine Lib.hid ?_
              unfold bestRes
              rw [if_neg (by decide), if_neg (by rw [HL.out]; omega)]
              rfl
            have hbb := plan_bd 0 p.length p rfl
            have hbb2 : (plan 0 p).bits ≤ 114688 := by have := HL.out; omega
            obtain ⟨bt, hbt⟩ : ∃ bt, bt = (plan 0 p).bits := ⟨_, rfl⟩
            rw [← hbt] at hbb2 HBE
            have HBT := Lib.hid hbt
            obtain ⟨nl, hnl⟩ : ∃ nl, nl = (bestL 0 p).length := ⟨_, rfl⟩
            have HNL := Lib.hid hnl
            clear hbt hnl hbb
            have HSMc : Hid (smF p l x (41 - 1) 1 = R) := HSM
            clear HSM
            go_wp2_with fail
            refine (rbest_any ao len cap p 0 wr HL.out hlc hb (HR.out.ext ((Ext.alloc _ _).trans HX.out))).mono ?_
            rw [HBE.out]
            rintro e w2 ⟨sao, scap, rfl, hs2, hcl2, hcm2, hx2⟩
            simp only at hs2 hcl2 ⊢
            have HX0 : Hid (Ext w wr) := (Ext.alloc _ _).trans HX.out
            have HS2 := Lib.hid (hs2.base HX0.out.size)
            have HX2 := Lib.hid (HX.out.trans hx2)
            rw [← HNL.out] at hcl2 ⊢
            clear hs2 hx2
            have hz := HX2.out.new
            have za : w2.cell? ⟨w.heap.size, 0, none⟩ = some (.int .i64 1) := by rw [cell_of_row _ _ _ _ _ _ hz]; rfl
            clear hz
            go_wp2_with fail
            go_loopw [14, 15, 16] (fun ver _ _ wi => ∃ v : Nat, 1 ≤ v ∧ v ≤ 10 ∧ ver = .int .i64 v ∧ Hid (smF p l x (41 - v) v = R) ∧ Hid (Ext w2 wi)) (fun ver _ _ _ => 10 - (intOf ver).toNat)
            case atStart => exact ⟨1, by omega, by omega, rfl, HSMc, Ext.refl _⟩
            case round =>
              clear HSMc za
              obtain ⟨v, hv1, hv2, rfl, HSM, HXI⟩ := hrel
              have hz := (HX2.out.trans HXI.out).new
              have zb : wr.cell? ⟨w.heap.size, 0 + 1, none⟩ = some (.int .i64 10) := by rw [cell_of_row _ _ _ _ _ _ hz]; rfl
              clear hz
              have zc : wr.cell? ⟨w.heap.size, 0 + 1, none⟩ = some (.int .i64 10) := zb
              by_cases hlt : v < 10
              · have HCLV : Hid (cls v = 0) := cls_0 hlt
                have HCP : Hid (cpRes v l = ((dataN v l : Int), 0)) := cpRes_3 (by unfold inV; omega) hl1
                have hdb := data_le v l (by omega) (by omega) hl1
                obtain ⟨dt, hdt⟩ : ∃ dt, dt = dataN v l := ⟨_, rfl⟩
                rw [← hdt] at hdb HCP
                have HDT := Lib.hid hdt
                clear hdt
                go_wp2_with fail
                refine (rcapacity_any _ _ _).mono ?_
                rw [HCP.out]
                rintro e w3 ⟨rfl, hx3⟩
                simp only [two]
                have HX3 := Lib.hid (HXI.out.trans hx3)
                clear hx3
                by_cases hok : okV p l x v
                · have hdk : decide (x ≤ 8 * (dt : Int) - (bt : Int)) = true := by have h := hok; unfold okV at h; rw [← HDT.out, HCLV.out, ← HBT.out] at h; simpa using h
                  have HRR : Hid (R = ((v : Int), bestL 0 p, 0)) := by
                    refine Lib.hid ?_
                    rw [← HSM.out]
                    obtain ⟨f, hf⟩ : ∃ f, 41 - v = f + 1 := ⟨40 - v, by omega⟩
                    rw [hf]
                    simp only [smF, if_pos hok, HCLV.out]
                  clear hok
                  go_wp2_with fail
                  go_ret3
                  rw [HRR.out]
                  rw [HNL.out] at hcl2
                  exact ⟨sao, scap, by rw [HNL.out]; rfl, HS2.out.ext HX3.out, hcl2, hcm2, (Ext.alloc _ _).trans (HX2.out.trans HX3.out)⟩
                · have hdk : decide (x ≤ 8 * (dt : Int) - (bt : Int)) = false := by have h := hok; unfold okV at h; rw [← HDT.out, HCLV.out, ← HBT.out] at h; simpa using h
                  have HRR : Hid (smF p l x (41 - (v + 1)) (v + 1) = R) := by
                    refine Lib.hid ?_
                    rw [← HSM.out]
                    obtain ⟨f, hf⟩ : ∃ f, 41 - v = f + 1 := ⟨40 - v, by omega⟩
                    rw [hf, show 41 - (v + 1) = f by omega]
                    simp only [smF, if_neg hok]
                  clear hok
                  go_wp2_with fail
                  refine ⟨⟨v + 1, by omega, by omega, by rw [Int.natCast_succ], HRR, HX3⟩, by simp [intOf]; omega⟩
              · obtain rfl : v = 10 := by omega
                have HXF := Lib.hid (HX2.out.trans HXI.out)
                go_wp2_with fail
                refine ⟨⟨0 + 1, by decide, by decide, rfl, (by rw [show frst (0 + 1) = 10 from by decide]; exact HSM), HXF⟩, by simp [intOf]⟩
          · skip
            have HBE : Hid (bestRes p 1 = (bestL 1 p, ((plan 1 p).bits : Int), 0)) := by
              refine Lib.hid ?_
              unfold bestRes
              rw [if_neg (by decide), if_neg (by rw [HL.out]; omega)]
              rfl
            have hbb := plan_bd 1 p.length p rfl
            have hbb2 : (plan 1 p).bits ≤ 114688 := by have := HL.out; omega
            obtain ⟨bt, hbt⟩ : ∃ bt, bt = (plan 1 p).bits := ⟨_, rfl⟩
            rw [← hbt] at hbb2 HBE
            have HBT := Lib.hid hbt
            obtain ⟨nl, hnl⟩ : ∃ nl, nl = (bestL 1 p).length := ⟨_, rfl⟩
            have HNL := Lib.hid hnl
            clear hbt hnl hbb
            have HSMc : Hid (smF p l x (41 - 10) 10 = R) := HSM
            clear HSM
            go_wp2_with fail
            refine (rbest_any ao len cap p 1 wr HL.out hlc hb (HR.out.ext ((Ext.alloc _ _).trans HX.out))).mono ?_
            rw [HBE.out]
            rintro e w2 ⟨sao, scap, rfl, hs2, hcl2, hcm2, hx2⟩
            simp only at hs2 hcl2 ⊢
            have HX0 : Hid (Ext w wr) := (Ext.alloc _ _).trans HX.out
            have HS2 := Lib.hid (hs2.base HX0.out.size)
            have HX2 := Lib.hid (HX.out.trans hx2)
            rw [← HNL.out] at hcl2 ⊢
            clear hs2 hx2
            have hz := HX2.out.new
            have za : w2.cell? ⟨w.heap.size, 1, none⟩ = some (.int .i64 10) := by rw [cell_of_row _ _ _ _ _ _ hz]; rfl
            clear hz
            go_wp2_with fail
            go_loopw [14, 15, 16] (fun ver _ _ wi => ∃ v : Nat, 10 ≤ v ∧ v ≤ 27 ∧ ver = .int .i64 v ∧ Hid (smF p l x (41 - v) v = R) ∧ Hid (Ext w2 wi)) (fun ver _ _ _ => 27 - (intOf ver).toNat)
            case atStart => exact ⟨10, by omega, by omega, rfl, HSMc, Ext.refl _⟩
            case round =>
              clear HSMc za
              obtain ⟨v, hv1, hv2, rfl, HSM, HXI⟩ := hrel
              have hz := (HX2.out.trans HXI.out).new
              have zb : wr.cell? ⟨w.heap.size, 1 + 1, none⟩ = some (.int .i64 27) := by rw [cell_of_row _ _ _ _ _ _ hz]; rfl
              clear hz
              have zc : wr.cell? ⟨w.heap.size, 1 + 1, none⟩ = some (.int .i64 27) := zb
              by_cases hlt : v < 27
              · have HCLV : Hid (cls v = 1) := cls_1 hv1 hlt
                have HCP : Hid (cpRes v l = ((dataN v l : Int), 0)) := cpRes_3 (by unfold inV; omega) hl1
                have hdb := data_le v l (by omega) (by omega) hl1
                obtain ⟨dt, hdt⟩ : ∃ dt, dt = dataN v l := ⟨_, rfl⟩
                rw [← hdt] at hdb HCP
                have HDT := Lib.hid hdt
                clear hdt
                go_wp2_with fail
                refine (rcapacity_any _ _ _).mono ?_
                rw [HCP.out]
                rintro e w3 ⟨rfl, hx3⟩
                simp only [two]
                have HX3 := Lib.hid (HXI.out.trans hx3)
                clear hx3
                by_cases hok : okV p l x v
                · have hdk : decide (x ≤ 8 * (dt : Int) - (bt : Int)) = true := by have h := hok; unfold okV at h; rw [← HDT.out, HCLV.out, ← HBT.out] at h; simpa using h
                  have HRR : Hid (R = ((v : Int), bestL 1 p, 0)) := by
                    refine Lib.hid ?_
                    rw [← HSM.out]
                    obtain ⟨f, hf⟩ : ∃ f, 41 - v = f + 1 := ⟨40 - v, by omega⟩
                    rw [hf]
                    simp only [smF, if_pos hok, HCLV.out]
                  clear hok
                  go_wp2_with fail
                  go_ret3
                  rw [HRR.out]
                  rw [HNL.out] at hcl2
                  exact ⟨sao, scap, by rw [HNL.out]; rfl, HS2.out.ext HX3.out, hcl2, hcm2, (Ext.alloc _ _).trans (HX2.out.trans HX3.out)⟩
                · have hdk : decide (x ≤ 8 * (dt : Int) - (bt : Int)) = false := by have h := hok; unfold okV at h; rw [← HDT.out, HCLV.out, ← HBT.out] at h; simpa using h
                  have HRR : Hid (smF p l x (41 - (v + 1)) (v + 1) = R) := by
                    refine Lib.hid ?_
                    rw [← HSM.out]
                    obtain ⟨f, hf⟩ : ∃ f, 41 - v = f + 1 := ⟨40 - v, by omega⟩
                    rw [hf, show 41 - (v + 1) = f by omega]
                    simp only [smF, if_neg hok]
                  clear hok
                  go_wp2_with fail
                  refine ⟨⟨v + 1, by omega, by omega, by rw [Int.natCast_succ], HRR, HX3⟩, by simp [intOf]; omega⟩
              · obtain rfl : v = 27 := by omega
                have HXF := Lib.hid (HX2.out.trans HXI.out)
                go_wp2_with fail
                refine ⟨⟨1 + 1, by decide, by decide, rfl, (by rw [show frst (1 + 1) = 27 from by decide]; exact HSM), HXF⟩, by simp [intOf]⟩
          · skip
            have HBE : Hid (bestRes p 2 = (bestL 2 p, ((plan 2 p).bits : Int), 0)) := by
              refine Lib.hid ?_
              unfold bestRes
              rw [if_neg (by decide), if_neg (by rw [HL.out]; omega)]
              rfl
            have hbb := plan_bd 2 p.length p rfl
            have hbb2 : (plan 2 p).bits ≤ 114688 := by have := HL.out; omega
            obtain ⟨bt, hbt⟩ : ∃ bt, bt = (plan 2 p).bits := ⟨_, rfl⟩
            rw [← hbt] at hbb2 HBE
            have HBT := Lib.hid hbt
            obtain ⟨nl, hnl⟩ : ∃ nl, nl = (bestL 2 p).length := ⟨_, rfl⟩
            have HNL := Lib.hid hnl
            clear hbt hnl hbb
            have HSMc : Hid (smF p l x (41 - 27) 27 = R) := HSM
            clear HSM
            go_wp2_with fail
            refine (rbest_any ao len cap p 2 wr HL.out hlc hb (HR.out.ext ((Ext.alloc _ _).trans HX.out))).mono ?_
            rw [HBE.out]
            rintro e w2 ⟨sao, scap, rfl, hs2, hcl2, hcm2, hx2⟩
            simp only at hs2 hcl2 ⊢
            have HX0 : Hid (Ext w wr) := (Ext.alloc _ _).trans HX.out
            have HS2 := Lib.hid (hs2.base HX0.out.size)
            have HX2 := Lib.hid (HX.out.trans hx2)
            rw [← HNL.out] at hcl2 ⊢
            clear hs2 hx2
            have hz := HX2.out.new
            have za : w2.cell? ⟨w.heap.size, 2, none⟩ = some (.int .i64 27) := by rw [cell_of_row _ _ _ _ _ _ hz]; rfl
            clear hz
            go_wp2_with fail
            go_loopw [14, 15, 16] (fun ver _ _ wi => ∃ v : Nat, 27 ≤ v ∧ v ≤ 41 ∧ ver = .int .i64 v ∧ Hid (smF p l x (41 - v) v = R) ∧ Hid (Ext w2 wi)) (fun ver _ _ _ => 41 - (intOf ver).toNat)
            case atStart => exact ⟨27, by omega, by omega, rfl, HSMc, Ext.refl _⟩
            case round =>
              clear HSMc za
              obtain ⟨v, hv1, hv2, rfl, HSM, HXI⟩ := hrel
              have hz := (HX2.out.trans HXI.out).new
              have zb : wr.cell? ⟨w.heap.size, 2 + 1, none⟩ = some (.int .i64 41) := by rw [cell_of_row _ _ _ _ _ _ hz]; rfl
              clear hz
              have zc : wr.cell? ⟨w.heap.size, 2 + 1, none⟩ = some (.int .i64 41) := zb
              by_cases hlt : v < 41
              · have HCLV : Hid (cls v = 2) := cls_2 hv1
                have HCP : Hid (cpRes v l = ((dataN v l : Int), 0)) := cpRes_3 (by unfold inV; omega) hl1
                have hdb := data_le v l (by omega) (by omega) hl1
                obtain ⟨dt, hdt⟩ : ∃ dt, dt = dataN v l := ⟨_, rfl⟩
                rw [← hdt] at hdb HCP
                have HDT := Lib.hid hdt
                clear hdt
                go_wp2_with fail
                refine (rcapacity_any _ _ _).mono ?_
                rw [HCP.out]
                rintro e w3 ⟨rfl, hx3⟩
                simp only [two]
                have HX3 := Lib.hid (HXI.out.trans hx3)
                clear hx3
                by_cases hok : okV p l x v
                · have hdk : decide (x ≤ 8 * (dt : Int) - (bt : Int)) = true := by have h := hok; unfold okV at h; rw [← HDT.out, HCLV.out, ← HBT.out] at h; simpa using h
                  have HRR : Hid (R = ((v : Int), bestL 2 p, 0)) := by
                    refine Lib.hid ?_
                    rw [← HSM.out]
                    obtain ⟨f, hf⟩ : ∃ f, 41 - v = f + 1 := ⟨40 - v, by omega⟩
                    rw [hf]
                    simp only [smF, if_pos hok, HCLV.out]
                  clear hok
                  go_wp2_with fail
                  go_ret3
                  rw [HRR.out]
                  rw [HNL.out] at hcl2
                  exact ⟨sao, scap, by rw [HNL.out]; rfl, HS2.out.ext HX3.out, hcl2, hcm2, (Ext.alloc _ _).trans (HX2.out.trans HX3.out)⟩
                · have hdk : decide (x ≤ 8 * (dt : Int) - (bt : Int)) = false := by have h := hok; unfold okV at h; rw [← HDT.out, HCLV.out, ← HBT.out] at h; simpa using h
                  have HRR : Hid (smF p l x (41 - (v + 1)) (v + 1) = R) := by
                    refine Lib.hid ?_
                    rw [← HSM.out]
                    obtain ⟨f, hf⟩ : ∃ f, 41 - v = f + 1 := ⟨40 - v, by omega⟩
                    rw [hf, show 41 - (v + 1) = f by omega]
                    simp only [smF, if_neg hok]
                  clear hok
                  go_wp2_with fail
                  refine ⟨⟨v + 1, by omega, by omega, by rw [Int.natCast_succ], HRR, HX3⟩, by simp [intOf]; omega⟩
              · obtain rfl : v = 41 := by omega
                have HXF := Lib.hid (HX2.out.trans HXI.out)
                go_wp2_with fail
                refine ⟨⟨2 + 1, by decide, by decide, rfl, (by rw [show frst (2 + 1) = 41 from by decide]; exact HSM), HXF⟩, by simp [intOf]⟩
          · have HRR : Hid (R = (0, [], 16)) := HSM.out.symm
            go_wp2_with fail
            go_ret3
            rw [HRR.out]
            exact RetSm.nil _ _ _ ((Ext.alloc _ _).trans HX.out)

end Go.Proofs.Ythebfpolijajgaa
