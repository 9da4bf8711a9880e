/-
  Readers whose bits lie in a known block; the contract of modes.read.
  Conditions: the mode is one of the three; the class is 0 to 2.
The contract of modes.Decode.
  Conditions: the slice's cells are those of the list.
-/
import Derived.Test.YthebfpolijajgaaModeL
import Derived.Test.YthebfpolijajgaaBitsG
import Derived.Deep.RegionWith
import Derived.Deep.LoopGhost
namespace Go.Proofs.Ythebfpolijajgaa
open Go.RowKit Go.Bs Go.Mode

/-- A reader lies in block g; the bits xs are left; they lie in block h. -/
def Rd2 (w : World) (g h : Nat) (xs : List Bool) : Prop :=
  ∃ ao cap, w.heap[g]? = some (.cells #[.slice ao xs.length cap, .bool true] 122 (0, 0)) ∧ Row w ao (bools xs) ∧ xs.length ≤ cap ∧ cap ≤ 9223372036854775807 ∧ (∀ a, ao = some a → a.block = h ∧ h ≠ g)

theorem Rd2.lt {w : World} {g h : Nat} {xs : List Bool} (hr : Rd2 w g h xs) : g < w.heap.size := by
  obtain ⟨ao, cap, h1, _⟩ := hr
  exact (Array.getElem?_eq_some_iff.1 h1).1

theorem Rd2.kept {w w' : World} {g h : Nat} {xs : List Bool} (hr : Rd2 w g h xs) (hg : w'.heap[g]? = w.heap[g]?) (hh : h < w.heap.size → w'.heap[h]? = w.heap[h]?) : Rd2 w' g h xs := by
  obtain ⟨ao, cap, h1, h2, h3, h4, h5⟩ := hr
  refine ⟨ao, cap, hg.trans h1, ?_, h3, h4, h5⟩
  intro i v hi
  obtain ⟨a, ha, hc⟩ := h2 i v hi
  have hlt := World.block_lt_of_cell? w _ hc
  refine ⟨a, ha, (World.cell?_of_block (w := w) ?_).trans hc⟩
  rw [block_add] at hlt ⊢
  rw [(h5 a ha).1] at hlt ⊢
  exact hh hlt
theorem Rd2.ext {w w' : World} {g h : Nat} {xs : List Bool} (hr : Rd2 w g h xs) (hx : Ext w w') : Rd2 w' g h xs := hr.kept (hx.block g hr.lt) (fun hl => hx.block h hl)

set_option maxHeartbeats 400000 in
theorem left2_any (g h : Nat) (xs : List Bool) (w : World) (hr : Rd2 w g h xs) :
    Calls Try.prog 55 #[.pointer (some ⟨g, 0, none⟩)] w fun e w' => e = .returned (.int .i64 xs.length) ∧ w = w' := by
  obtain ⟨ao, cap, hh, _⟩ := hr
  have hc : w.cell? ⟨g, 0, none⟩ = some (.slice ao xs.length cap) := by rw [cell_of_row w g 0 _ _ _ hh]; rfl
  clear hh
  go_enter Try.func55, Try.ntmps55
  go_wp2_with (go_at_call 77; refine (count_any _ _ _ _ _ hc).mono ?_; rintro e w' ⟨rfl, rfl⟩)
  go_ret
  exact ⟨rfl, rfl⟩

set_option maxHeartbeats 400000 in
theorem take2_any (g h : Nat) (xs : List Bool) (q : Nat) (w : World) (hr : Rd2 w g h xs) (hq : q ≤ 62) (hq' : q ≤ xs.length) :
    Calls Try.prog 56 #[.pointer (some ⟨g, 0, none⟩), .int .i64 q] w fun e w' => e = .returned (two (num (xs.take q), 0)) ∧ Rd2 w' g h (xs.drop q) ∧ w.grownBy w' (some g) := by
  obtain ⟨ao, cap, hh, hr, h1, h2, h3⟩ := hr
  have hc : w.cell? ⟨g, 0, none⟩ = some (.slice ao xs.length cap) := by rw [cell_of_row w g 0 _ _ _ hh]; rfl
  have hc1 : w.cell? ⟨g, 1, none⟩ = some (.bool true) := by rw [cell_of_row w g 1 _ _ _ hh]; rfl
  have hf : w.frozen? ⟨g, 0, none⟩ = false := frozen_of_row w g 0 _ _ hh
  have HH := Lib.hid hh
  clear hh
  go_enter Try.func56, Try.ntmps56
  go_wp2_with (go_at_call 78; refine (next_ok g ao _ cap xs q _ rfl h1 h2 hr hc hf hq hq').mono ?_; rintro e w' ⟨ao', rfl, rfl, hrow, hblk⟩; simp only [two])
  go_ret2
  have hg := grown_set w g 0 (.slice ao' (xs.length - q) (cap - q))
  have hne : ∀ a, ao' = some a → a.block = h ∧ h ≠ g := by
    intro a ha
    obtain ⟨b, hb, hbb⟩ := hblk a ha
    rw [hbb]; exact h3 b hb
  refine ⟨rfl, ?_, hg⟩
  exact ⟨_, cap - q, by rw [List.length_drop]; exact heap_set0 HH.out, hrow.kept hg (fun a ha => by rw [(hne a ha).1]; exact (hne a ha).2), by simp; omega, by omega, hne⟩

set_option maxHeartbeats 400000 in
theorem newReader2_any (ao : Option Addr) (len cap : Nat) (xs : List Bool) (w : World) (hl : xs.length = len) (hb : len ≤ 1048576) (hn0 : ao = none → cap = 0) (hr : Row w ao (bools xs)) :
    Calls Try.prog 54 #[.slice ao len cap] w fun e w' => ∃ g h, e = .returned (.pointer (some ⟨g, 0, none⟩)) ∧ Rd2 w' g h xs ∧ w.heap.size ≤ g ∧ h < w'.heap.size ∧ Ext w w' := by
  have HL := Lib.hid hl
  have hle : xs.length ≤ len := by omega
  clear hl
  go_enter Try.func54, Try.ntmps54
  go_wp2_with (at_builtin; refine wpList_pushAll (ws := w) rfl _ _ 40 rfl w.heap.size 4 (.bool false) 1 Try.infoBool rfl Try.underlying40 _ rfl 0 [] (World.ownsRow_nil _ _ _ _) _ _ _ rfl (bools xs) hr (by rw [length_bools]; exact HL.out) hn0 (bools_oneCell _) (by omega) (by omega) (Below.refl _ _) (Nat.le_refl _) ?_)
  intro s1 w1 hown1 hb1 _
  try simp only [Nat.zero_add, List.nil_append] at hown1
  obtain ⟨ao', cap', rfl, h1, h2, h3, hrow⟩ := own_row hown1
  go_wp2
  go_ret
  have hsz := hb1.size
  have hh : w1.heap[w1.heap.size]? = none := by simp
  refine ⟨w1.heap.size, match ao' with | some a => a.block | none => 0, rfl, ⟨ao', cap', ?_, hrow.ext (Ext.alloc _ _), by have := HL.out; omega, by unfold maxLen at h2; omega, ?_⟩, hsz, ?_, hb1.alloc hsz _⟩
  · rw [HL.out]; exact heap_alloc_new _ _
  · intro a ha
    subst ha
    have := hown1.lt a.block rfl
    exact ⟨rfl, by simp only; omega⟩
  · have : (w1.alloc (.cells #[.slice ao' len cap', .bool true] 122)).heap.size = w1.heap.size + 1 := by simp
    cases ao' with
    | none => simp
    | some a =>
      have := hown1.lt a.block rfl
      simp
      omega

/-- From w to w' all blocks but g and that of v are as they were; the block of v' is v's or new. -/
structure KeepG (g : Nat) (w : World) (v : Value) (w' : World) (v' : Value) : Prop where
  os : w'.os = w.os
  tape : w'.tape = w.tape
  output : w'.output = w.output
  size : w.heap.size ≤ w'.heap.size
  block : ∀ k, k < w.heap.size → k ≠ g → v.ownBlock ≠ some k → w'.heap[k]? = w.heap[k]?
  own : ∀ k, k < w.heap.size → v.ownBlock ≠ some k → v'.ownBlock ≠ some k
theorem KeepG.trans {g : Nat} {a b c : World} {x y z : Value} (h : KeepG g a x b y) (k : KeepG g b y c z) : KeepG g a x c z :=
  ⟨k.os.trans h.os, k.tape.trans h.tape, k.output.trans h.output, Nat.le_trans h.size k.size,
    fun i hi hg hn => (k.block i (Nat.lt_of_lt_of_le hi h.size) hg (h.own i hi hn)).trans (h.block i hi hg hn),
    fun i hi hn => k.own i (Nat.lt_of_lt_of_le hi h.size) (h.own i hi hn)⟩
theorem KeepG.ofKeep {g : Nat} {a b : World} {x y : Value} (h : Keep a x b y) : KeepG g a x b y := ⟨h.os, h.tape, h.output, h.size, fun k hk _ hn => h.block k hk hn, h.own⟩
theorem KeepG.ofExt {g : Nat} {a b : World} (h : Ext a b) (x : Value) : KeepG g a x b x := KeepG.ofKeep (Keep.ofExt h x)
theorem KeepG.ofGrown {g : Nat} {a b : World} (h : a.grownBy b (some g)) (x : Value) : KeepG g a x b x :=
  ⟨h.os, h.tape, h.output, h.size, fun k hk hg _ => h.block k hk (fun e => hg (Option.some.inj e)), fun _ _ hn => hn⟩
theorem KeepG.made {g : Nat} {w w' : World} {v : Value} (hx : Ext w w') (hv : ∀ k, v.ownBlock = some k → w.heap.size ≤ k) : KeepG g w (.slice none 0 0) w' v := KeepG.ofKeep (Keep.made hx hv)
theorem KeepG.grown {g : Nat} {w w' : World} {v : Value} (h : KeepG g w (.slice none 0 0) w' v) : w.grownBy w' (some g) :=
  ⟨h.os, h.tape, h.output, h.size, fun k hk hn => h.block k hk (fun e => hn (by rw [e])) (by simp [Value.ownBlock])⟩
theorem KeepG.cell {g : Nat} {w w' : World} {v v' : Value} (h : KeepG g w v w' v') {a : Addr} {u : Value} (hc : w.cell? a = some u) (hg : a.block ≠ g) (hne : v.ownBlock ≠ some a.block) : w'.cell? a = some u :=
  (World.cell?_of_block (h.block a.block (World.block_lt_of_cell? w a hc) hg hne)).trans hc
theorem KeepG.row {g : Nat} {w w' : World} {v v' : Value} (h : KeepG g w v w' v') {ao : Option Addr} {cs : List Value} (hr : Row w ao cs) (hne : ∀ a, ao = some a → a.block ≠ g ∧ v.ownBlock ≠ some a.block) : Row w' ao cs := by
  intro i u hi
  obtain ⟨a, ha, hc⟩ := hr i u hi
  have e : (a.add i).block = a.block := by unfold Addr.add; split <;> rfl
  exact ⟨a, ha, h.cell hc (by rw [e]; exact (hne a ha).1) (by rw [e]; exact (hne a ha).2)⟩
theorem Rd2.keep {w w' : World} {g h : Nat} {xs : List Bool} {v v' : Value} (hr : Rd2 w g h xs) (hk : Keep w v w' v') (h1 : v.ownBlock ≠ some g) (h2 : v.ownBlock ≠ some h) : Rd2 w' g h xs :=
  hr.kept (hk.block g hr.lt h1) (fun hl => hk.block h hl h2)

/-- What read does: the data in a row of the call's own, an error's number; what is left. -/
def ReadPost (w : World) (g h : Nat) (r : List UInt8 × Int × List Bool) (e : Ending) (w' : World) : Prop :=
  ∃ s, e = .returned (.tuple #[s, .int .i64 r.2.1]) ∧ w'.ownsRow w.heap.size 5 1 s r.1.length (byts r.1) ∧ (r.2.1 = 0 → Rd2 w' g h r.2.2) ∧ w.grownBy w' (some g)

theorem rd_1 {m : Int} {k : Nat} {bs : List Bool} (h : bs.length < cntB m k) : readRes m k bs = ([], 10, []) := by unfold readRes; rw [if_pos h]
theorem rd_2 {m : Int} {k : Nat} {bs : List Bool} (h : ¬ bs.length < cntB m k) (h2 : (bs.drop (cntB m k)).length < dsize m (numN (bs.take (cntB m k)))) : readRes m k bs = ([], 10, []) := by unfold readRes; rw [if_neg h, if_pos h2]
theorem rd_3 {m : Int} {k : Nat} {bs : List Bool} (h : ¬ bs.length < cntB m k) (h2 : ¬ (bs.drop (cntB m k)).length < dsize m (numN (bs.take (cntB m k)))) (h3 : decD m (numN (bs.take (cntB m k))) (bs.drop (cntB m k)) = none) : readRes m k bs = ([], 9, []) := by
  unfold readRes; rw [if_neg h, if_neg h2, h3]
theorem rd_4 {m : Int} {k : Nat} {bs : List Bool} {d : List UInt8} (h : ¬ bs.length < cntB m k) (h2 : ¬ (bs.drop (cntB m k)).length < dsize m (numN (bs.take (cntB m k)))) (h3 : decD m (numN (bs.take (cntB m k))) (bs.drop (cntB m k)) = some d) :
    readRes m k bs = (d, 0, (bs.drop (cntB m k)).drop (dsize m (numN (bs.take (cntB m k))))) := by
  unfold readRes; rw [if_neg h, if_neg h2, h3]

theorem own_nil' {w : World} {B : Nat} {e : TypeId} {ao : Option Addr} {n k cap : Nat} {xs : List Value} (h : w.ownsRow B e 1 (.slice ao n cap) k xs) : ao = none → cap = 0 := by
  intro ha
  subst ha
  rcases h.2 with ⟨hv, _⟩ | ⟨g', cap', cur, hv, _⟩
  · simp at hv; exact hv.2
  · simp at hv
theorem dsize_zero (m : Int) : dsize m 0 = 0 := by simp [dsize]
theorem dsize_split (m : Int) (r : Nat) (hm : okMode m = true) : dsize m r = dsize m (min r (unitN m)) + dsize m (r - min r (unitN m)) := by
  rcases Nat.le_total r (unitN m) with h | h
  · rw [Nat.min_eq_left h, Nat.sub_self, dsize_zero]; omega
  · rw [Nat.min_eq_right h, ← dsize_add m hm, Nat.add_sub_cancel' h]

set_option maxRecDepth 20000 in
set_option maxHeartbeats 3200000 in
theorem read_any (g h : Nat) (m : Int) (k : Nat) (bs : List Bool) (w : World) (hm : okMode m = true) (hk : k ≤ 2) (hh : h < w.heap.size) (hr : Rd2 w g h bs) :
    Calls Try.prog 57 #[.pointer (some ⟨g, 0, none⟩), .int .i64 m, .int .i64 k] w (ReadPost w g h (readRes m k bs)) := by
  have HC := Lib.hid (ctRes_ok m k hm hk)
  have hcb := cntB_bd m k hk
  have HMO := Lib.hid hm
  have HR := Lib.hid hr
  have HL0 := Lib.hid (left2_any g h bs w hr)
  clear hm hr
  obtain ⟨R, hR⟩ : ∃ R, R = readRes m k bs := ⟨_, rfl⟩
  have HRR := Lib.hid hR
  rw [← hR]
  clear hR
  obtain ⟨C, hC⟩ : ∃ C, C = cntB m k := ⟨_, rfl⟩
  rw [← hC] at HC hcb
  have HCC := Lib.hid hC
  clear hC
  obtain ⟨nb, hnb⟩ : ∃ nb, nb = bs.length := ⟨_, rfl⟩
  have HNB := Lib.hid hnb
  rw [← hnb] at HL0
  clear hnb
  go_enter Try.func57, Try.ntmps57
  go_wp2_with fail
  refine (countBits_any _ _ _).mono ?_
  rw [HC.out]
  rintro e w' ⟨rfl, rfl⟩
  simp only [two]
  go_wp2_with fail
  refine HL0.out.mono ?_
  rintro e w' ⟨rfl, rfl⟩
  by_cases hlt : nb < C
  · have HR1 := Lib.hid (HRR.out.trans (rd_1 (by rw [← HNB.out, ← HCC.out]; exact hlt)))
    go_wp2_with fail
    go_ret2
    rw [HR1.out]
    exact ⟨_, rfl, World.ownsRow_nil _ _ _ _, fun h0 => by simp at h0, World.grownBy.refl _ _⟩
  · go_wp2_with fail
    refine (take2_any g h bs C _ HR.out (by omega) (by rw [← HNB.out]; omega)).mono ?_
    rintro e w1 ⟨rfl, hr1, hg1⟩
    rw [numN_num]
    simp only [two]
    have hnlt : numN (bs.take C) < 2 ^ C := by
      have := numN_lt (bs.take C)
      rwa [List.length_take, Nat.min_eq_left (by rw [← HNB.out]; omega)] at this
    have hpw := (pow_cnt C hcb.2).2
    obtain ⟨n, hn⟩ : ∃ n, n = numN (bs.take C) := ⟨_, rfl⟩
    have HN := Lib.hid hn
    rw [← hn] at hnlt ⊢
    have hn65 : n < 65536 := by omega
    clear hn hnlt hpw
    have HK1 := Lib.hid (KeepG.ofGrown hg1 (.slice none 0 0))
    have hr1' := hr1
    obtain ⟨r0, hr0⟩ : ∃ r0, r0 = bs.drop C := ⟨_, rfl⟩
    rw [← hr0] at hr1
    have HR0 := Lib.hid hr0
    have HRD1 := Lib.hid hr1
    have hgw := HR.out.lt
    clear hr1' hr0 hr1 hg1
    go_wp2_with fail
    refine (packed_any m _ HMO.out).mono ?_
    rw [packA_eq]
    rintro e w2 ⟨rfl, hx2⟩
    have HK2 := Lib.hid (HK1.out.trans (KeepG.ofExt hx2 _))
    have HKS : Hid (w.heap.size ≤ w2.heap.size) := HK2.out.size
    have HRD2 := Lib.hid (HRD1.out.ext hx2)
    clear HK1 HRD1 hx2
    have HPZ := fun W (q : Nat) (hq : q ≤ 1099511627776) => Lib.hid (psize_any m q W HMO.out hq)
    simp only [packA_eq] at HPZ
    have hdb : dsize m n ≤ 11 * n + 7 := by unfold dsize; split <;> (try split) <;> (try split) <;> (try split) <;> omega
    have HPN := fun W => HPZ W n (by omega)
    obtain ⟨D, hD⟩ : ∃ D, D = dsize m n := ⟨_, rfl⟩
    simp only [← hD] at HPN
    rw [← hD] at hdb
    have HDD := Lib.hid hD
    clear hD
    go_wp2_with fail
    obtain ⟨W, hW⟩ : ∃ W : World, W = w2.alloc (.cells #[.int .i64 (unitN m), .int .i64 (baseI m), .int .i64 (fullI m), .int .i64 0, .int .i64 (part1 m), .int .i64 (part2 m)] 76) := ⟨_, rfl⟩
    have HWX : Hid (Ext w2 W) := by rw [hW]; exact Ext.alloc _ _
    have HPR : Hid (Row W (some ⟨w2.heap.size, 0, none⟩) (packA m).toList) := by rw [packA_eq, hW]; exact Row.lit _ _ _
    have hpW : w2.heap.size < W.heap.size := by rw [hW]; simp
    have HRW := Lib.hid (HRD2.out.ext HWX.out)
    have HKW := Lib.hid (HK2.out.trans (KeepG.ofExt HWX.out _))
    clear HWX HRD2 HK2
    rw [hW] at HRW
    obtain ⟨n0, hn0⟩ : ∃ n0, n0 = r0.length := ⟨_, rfl⟩
    have HN0 := Lib.hid hn0
    have HLF := fun (Wx : World) (hx : Rd2 Wx g h r0) => Lib.hid (left2_any g h r0 Wx hx)
    simp only [← hn0] at HLF
    have HW := Lib.hid hW
    clear hW hn0
    go_cut [42] (fun b wx => b = .bool (decide (n0 < D)) ∧ Hid (Ext W wx))
    case first =>
      go_region_with (first
        | (go_at_call 55; refine (HLF _ (HRW.out.ext ((Ext.refl _).drewN _))).out.mono ?_; rintro e w3 ⟨rfl, rfl⟩)
        | (go_at_call 49; refine (HPN _).out.mono ?_; rintro e w4 ⟨rfl, hx4⟩))
      all_goals (go_wp2_with fail; go_meet; exact ⟨rfl, by rw [HW.out]; exact ((Ext.refl _).drewN _).trans hx4⟩)
    case rest =>
      obtain ⟨rfl, HX4⟩ := hcut
      rw [← HW.out] at HRW
      have HK4 := Lib.hid (HKW.out.trans (KeepG.ofExt HX4.out _))
      have HR4 := Lib.hid (HRW.out.ext HX4.out)
      have HP4 := Lib.hid (HPR.out.ext HX4.out)
      have hp4 : w2.heap.size < wc.heap.size := Nat.lt_of_lt_of_le hpW HX4.out.size
      obtain ⟨p12, hp12⟩ : ∃ p12, p12 = w2.heap.size := ⟨_, rfl⟩
      have hp12w : w.heap.size ≤ p12 := by rw [hp12]; have := HR.out.lt; exact Nat.le_trans HKS.out (Nat.le_refl _)
      rw [← hp12] at HP4 hp4 ⊢
      clear hp12 HRW HKW HPR HX4 hpW HW HLF HPN
      by_cases hlt2 : n0 < D
      · have HR1 := Lib.hid (HRR.out.trans (rd_2 (by rw [← HNB.out, ← HCC.out]; exact hlt) (by rw [← HCC.out, ← HR0.out, ← HN.out, ← HDD.out, ← HN0.out]; exact hlt2)))
        go_wp2_with fail
        go_ret2
        rw [HR1.out]
        exact ⟨_, rfl, World.ownsRow_nil _ _ _ _, fun h0 => by simp at h0, HK4.out.grown⟩
      · have HB4 : Hid (w.heap.size ≤ wc.heap.size) := HK4.out.size
        go_wp2_with (at_make; refine wpList_make (ws := wc) rfl _ _ 22 rfl w.heap.size 5 (.int .u8 0) 1 Try.infoByte rfl Try.underlying22 _ _ _ _ rfl rfl 0 n rfl rfl (Nat.zero_le _) (by omega) (by omega) (Below.refl _ _) HB4.out ?_; intro w5 hown5 _ hg5)
        have hx5 : Ext wc w5 := ⟨hg5.os, hg5.tape, hg5.output, hg5.size, fun k hk => hg5.block k hk (by simp)⟩
        have HKM : Hid (KeepG g wc (.slice none 0 0) w5 (.slice (some ⟨wc.heap.size, 0, none⟩) 0 n)) := KeepG.made hx5 (fun k hk => by simp [Value.ownBlock] at hk; omega)
        have HRM := Lib.hid (HR4.out.ext hx5)
        have hun := unit_pos m
        have hun3 : unitN m ≤ 3 := by unfold unitN; split <;> (try split) <;> omega
        obtain ⟨U, hU⟩ : ∃ U, U = unitN m := ⟨_, rfl⟩
        have HU := Lib.hid hU
        rw [← hU] at hun hun3
        have HP0 : Hid (wc.cell? ⟨p12, 0, none⟩ = some (.int .i64 U)) := by
          obtain ⟨a', ha', hc'⟩ := HP4.out.at (i := 0) (v := .int .i64 U) (by rw [packA_eq, hU]; rfl)
          cases ha'
          exact hc'
        clear hU hg5 hx5 HR4
        have hpg : p12 ≠ g := by omega
        have HPG := Lib.hid hpg
        clear hpg
        go_loopw [10, 13, 14, 15, 16, 17, 18] (fun lf v _ _ _ _ _ wy => ∃ (r : Nat) (done : List UInt8) (cur : List Bool), r ≤ n ∧ lf = .int .i64 r ∧ Hid (done.length + r = n) ∧ wy.ownsRow w.heap.size 5 1 v done.length (byts done) ∧ Hid (Rd2 wy g h cur) ∧ Hid ((decD m r cur).map (done ++ ·) = decD m n r0) ∧ Hid (dsize m r ≤ cur.length ∧ cur.drop (dsize m r) = r0.drop D) ∧ Hid (KeepG g wc (.slice none 0 0) wy v)) (fun lf _ _ _ _ _ _ _ => (intOf lf).toNat)
        case atStart =>
          refine ⟨n, [], r0, Nat.le_refl _, rfl, by show _ = _; simp, hown5, HRM, ?_, ⟨?_, ?_⟩, HKM⟩
          · show _ = _
            cases decD m n r0 <;> simp
          · rw [← HDD.out, ← HN0.out]; omega
          · rw [← HDD.out]
        case round =>
          clear hown5 HKM HRM
          obtain ⟨r, done, cur, hrn, rfl, HDN, hown, HRC, HDC, HCU, HKY⟩ := hrel
          have hdl : done.length ≤ 65536 := by have := HDN.out; omega
          by_cases hr0 : 0 < r
          · obtain ⟨K, hK⟩ : ∃ K : Nat, K = min r U := ⟨_, rfl⟩
            have hmin : min (r : Int) (U : Int) = (K : Int) := by omega
            have hK1 : 1 ≤ K := by omega
            have hK3 : K ≤ 3 := by omega
            have hKr : K ≤ r := by omega
            have HK := Lib.hid hK
            have hSp : dsize m r = dsize m K + dsize m (r - K) := by rw [hK, HU.out]; exact dsize_split m r HMO.out
            have hS11 : dsize m K ≤ 11 := dsize_unit m K HMO.out (by rw [← HU.out]; omega)
            have HCU' : Hid (dsize m (r - K) ≤ (cur.drop (dsize m K)).length ∧ (cur.drop (dsize m K)).drop (dsize m (r - K)) = r0.drop D) := by
              have h1 := HCU.out
              refine ⟨by rw [List.length_drop]; omega, ?_⟩
              rw [List.drop_drop, ← hSp]; exact h1.2
            have hSc : dsize m K ≤ cur.length := by have := HCU.out.1; omega
            have HBAD : Hid (ungOk m (numN (cur.take (dsize m K))) K = false → decD m n r0 = none) := by
              intro hb
              rw [← HDC.out, decD_bad m r cur hr0 (by rw [← HU.out, ← hK]; exact hb)]
              rfl
            have HGOOD : Hid (ungOk m (numN (cur.take (dsize m K))) K = true → (decD m (r - K) (cur.drop (dsize m K))).map ((done ++ ungV m (numN (cur.take (dsize m K))) K) ++ ·) = decD m n r0) := by
              intro hb
              rw [← HDC.out, decD_ok m r cur hr0 (by rw [← HU.out, ← hK]; exact hb), ← HU.out, ← hK]
              cases decD m (r - K) (cur.drop (dsize m K)) <;> simp
            have hVb : numN (cur.take (dsize m K)) ≤ 1048576 := by
              have h1 := numN_lt (cur.take (dsize m K))
              rw [List.length_take, Nat.min_eq_left hSc] at h1
              have : 2 ^ dsize m K ≤ 2 ^ 11 := Nat.pow_le_pow_right (by decide) hS11
              omega
            obtain ⟨S, hS⟩ : ∃ S, S = dsize m K := ⟨_, rfl⟩
            have HS := Lib.hid hS
            rw [← hS] at hS11 HCU' hSc HBAD HGOOD hVb
            obtain ⟨V, hV⟩ : ∃ V, V = numN (cur.take S) := ⟨_, rfl⟩
            have HV : Hid (num (cur.take S) = (V : Int)) := by show _ = _; rw [hV]; exact numN_num _
            rw [← hV] at HBAD HGOOD hVb
            clear hK hS hV hSp
            have p0 := HKY.out.cell HP0.out HPG.out (by simp [Value.ownBlock])
            have HROW := Lib.hid (HKY.out.row HP4.out (fun a ha => by cases ha; exact ⟨HPG.out, by simp [Value.ownBlock]⟩))
            have hSz : Hid (w.heap.size ≤ wr.heap.size) := Nat.le_trans HB4.out HKY.out.size
            go_wp2_with ((with_reducible show wpList _ _ _ (⟨some 53, _, _, _, _, _⟩ :: _) _ _); refine wpList_loadAgg rfl 76 _ rfl _ Try.underlying76 rfl _ rfl (packA m).toList HROW.out (by rw [packA_eq]; kernel_rfl) ?_)
            refine (psize_any m K _ HMO.out (by omega)).mono ?_
            rw [← HS.out]
            rintro e w6 ⟨rfl, hx6⟩
            go_wp2_with fail
            refine (take2_any g h cur S _ (HRC.out.ext hx6) (by omega) hSc).mono ?_
            rw [HV.out]
            rintro e w7 ⟨rfl, hr7, hg7⟩
            simp only [two]
            have HR7 := Lib.hid hr7
            have HG7 := Lib.hid hg7
            clear hr7 hg7
            go_wp2_with fail
            refine (unpack_any m V K _ HMO.out hVb hK3).mono ?_
            rintro e w8 ⟨s8, rfl, hown8, hx8⟩
            obtain ⟨so8, sc8, rfl, hso8, hsm8, _, hsr8⟩ := own_row hown8
            rw [length_byts, length_ungV] at hso8 ⊢
            have HN8 := Lib.hid (own_nil' hown8)
            have HSR8 := Lib.hid hsr8
            have HK8 : Hid (KeepG g wr u13 w8 u13) := (KeepG.ofExt hx6 _).trans ((KeepG.ofGrown HG7.out _).trans (KeepG.ofExt hx8 _))
            have HR8 := Lib.hid (HR7.out.ext hx8)
            have HOW8 : Hid (w8.ownsRow w.heap.size 5 1 u13 done.length (byts done)) := by
              have h6 := own_extN hown hx6
              have h7 := h6.kept HG7.out (Or.inr (own_below hown hgw))
              exact own_extN h7 hx8
            clear hown8 hsr8 hx6 hx8 HR7 HG7 hown
            cases hok : ungOk m V K
            · have HR1 := Lib.hid (HRR.out.trans (rd_3 (by rw [← HNB.out, ← HCC.out]; exact hlt) (by rw [← HCC.out, ← HR0.out, ← HN.out, ← HDD.out, ← HN0.out]; exact hlt2) (by rw [← HCC.out, ← HR0.out, ← HN.out]; exact HBAD.out hok)))
              clear hok
              go_wp2_with fail
              go_ret2
              rw [HR1.out]
              exact ⟨_, rfl, World.ownsRow_nil _ _ _ _, fun h0 => by simp at h0, (HK4.out.trans (HKY.out.trans HK8.out)).grown⟩
            · have HGD := Lib.hid (HGOOD.out hok)
              have hown8 := HOW8.out
              have hB8 : w.heap.size ≤ w8.heap.size := Nat.le_trans hSz.out HK8.out.size
              clear hok HBAD HGOOD
              go_wp2_with (at_builtin; refine wpList_app rfl _ _ 22 rfl w.heap.size 5 (.int .u8 0) 1 1 Try.infoByte rfl (by decide) Try.underlying22 _ rfl _ _ hown8 _ K sc8 rfl (byts (ungV m V K)) HSR8.out (by rw [length_byts, length_ungV]; omega) HN8.out (byts_oneCell _) (by omega) (by omega) hB8 ?_; intro s9 w9 hown9 hk9)
              have hown9' : w9.ownsRow w.heap.size 5 1 s9 (done ++ ungV m V K).length (byts (done ++ ungV m V K)) := by
                rw [List.length_append, length_ungV, byts_append]; exact hown9
              have HK9 := Lib.hid (HKY.out.trans (HK8.out.trans (KeepG.ofKeep hk9)))
              have HR9 := Lib.hid (HR8.out.keep hk9 (own_below hown8 hgw) (own_below hown8 hh))
              have HDN9 : Hid ((done ++ ungV m V K).length + (r - K) = n) := by show _ = _; rw [List.length_append, length_ungV]; have := HDN.out; omega
              clear hown9 hk9 HK8 HR8 HOW8
              go_roundw
              case rel => exact ⟨r - K, done ++ ungV m V K, cur.drop S, by omega, int_eq (by omega), HDN9, hown9', HR9, HGD, HCU', HK9⟩
              case measure => simp [intOf]; omega
          · obtain rfl : r = 0 := by omega
            have hd0 : decD m n r0 = some done := by
              have := HDC.out
              rw [decD_zero] at this
              simpa using this.symm
            have HR1 := Lib.hid (HRR.out.trans (rd_4 (by rw [← HNB.out, ← HCC.out]; exact hlt) (by rw [← HCC.out, ← HR0.out, ← HN.out, ← HDD.out, ← HN0.out]; exact hlt2) (by rw [← HCC.out, ← HR0.out, ← HN.out]; exact hd0)))
            have HCE : Hid (cur = r0.drop D) := by
              have := HCU.out.2
              rwa [dsize_zero] at this
            clear hd0
            go_wp2_with fail
            go_ret2
            rw [HR1.out, ← HCC.out, ← HR0.out, ← HN.out, ← HDD.out, ← HCE.out]
            exact ⟨_, rfl, hown, fun _ => HRC.out, (HK4.out.trans HKY.out).grown⟩


theorem Try.infoSeg : (Try.prog.info? 33).map (fun i => (i.zero, i.size, i.bytes)) = some (some (.agg #[.int .i64 0, .slice none 0 0]), 2, 32) := by kernel_rfl

/-- The data of a segment in a row that is neither in block g nor in v's own. -/
def DatA (B : Nat) (w : World) (g : Nat) (v : Value) (u : Value) (d : List UInt8) : Prop :=
  ∃ ao cap, u = .slice ao d.length cap ∧ Row w ao (byts d) ∧ d.length ≤ cap ∧ cap ≤ 9223372036854775807 ∧ (ao = none → cap = 0) ∧ (∀ a, ao = some a → a.block ≠ g ∧ v.ownBlock ≠ some a.block ∧ a.block < w.heap.size ∧ B ≤ a.block)
def SegCells (B : Nat) (w : World) (g : Nat) (v : Value) (cells : List Value) (l : List SegD) : Prop :=
  ∀ i p, l[i]? = some p → ∃ u, cells[i * 2]? = some (.int .i64 p.1) ∧ cells[i * 2 + 1]? = some u ∧ DatA B w g v u p.2
theorem DatA.keep {B : Nat} {w w' : World} {g : Nat} {v v' u : Value} {d : List UInt8} (h : DatA B w g v u d) (hk : KeepG g w v w' v') : DatA B w' g v' u d := by
  obtain ⟨ao, cap, h1, h2, h3, h4, h5, h6⟩ := h
  exact ⟨ao, cap, h1, hk.row h2 (fun a ha => ⟨(h6 a ha).1, (h6 a ha).2.1⟩), h3, h4, h5, fun a ha => ⟨(h6 a ha).1, hk.own a.block (h6 a ha).2.2.1 (h6 a ha).2.1, Nat.lt_of_lt_of_le (h6 a ha).2.2.1 hk.size, (h6 a ha).2.2.2⟩⟩
theorem SegCells.keep {B : Nat} {w w' : World} {g : Nat} {v v' : Value} {cells : List Value} {l : List SegD} (h : SegCells B w g v cells l) (hk : KeepG g w v w' v') : SegCells B w' g v' cells l := by
  intro i p hi
  obtain ⟨u, h1, h2, h3⟩ := h i p hi
  exact ⟨u, h1, h2, h3.keep hk⟩
theorem SegCells.nil (B : Nat) (w : World) (g : Nat) (v : Value) : SegCells B w g v [] [] := by intro i p hi; simp at hi
theorem SegCells.snoc {B : Nat} {w : World} {g : Nat} {v : Value} {cells : List Value} {l : List SegD} {m : Int} {d : List UInt8} {u : Value} (h : SegCells B w g v cells l) (hl : cells.length = l.length * 2) (hd : DatA B w g v u d) : SegCells B w g v (cells ++ [.int .i64 m, u]) (l ++ [(m, d)]) := by
  intro i p hi
  by_cases hlt : i < l.length
  · rw [List.getElem?_append_left hlt] at hi
    obtain ⟨u', h1, h2, h3⟩ := h i p hi
    refine ⟨u', ?_, ?_, h3⟩
    · rw [List.getElem?_append_left (by omega)]; exact h1
    · rw [List.getElem?_append_left (by omega)]; exact h2
  · rw [List.getElem?_append_right (by omega)] at hi
    have hi0 : i = l.length := by
      have := (List.getElem?_eq_some_iff.1 hi).1
      simp at this
      omega
    subst hi0
    simp at hi
    subst hi
    refine ⟨u, ?_, ?_, hd⟩
    · rw [List.getElem?_append_right (by omega), hl, Nat.sub_self]; rfl
    · rw [List.getElem?_append_right (by omega), hl, show l.length * 2 + 1 - l.length * 2 = 1 by omega]; rfl

/-- Segments that lie in blocks from B on. -/
def SegsN (w : World) (B : Nat) (ao : Option Addr) (l : List SegD) : Prop :=
  ∀ (i : Nat) (p : SegD), l[i]? = some p → ∃ b off v, ao = some ⟨b, off, none⟩ ∧ B ≤ b ∧ w.cell? ⟨b, off + i * 2, none⟩ = some (.int .i64 p.1) ∧ w.cell? ⟨b, off + i * 2 + 1, none⟩ = some v ∧
    ∃ ao' cap, v = .slice ao' p.2.length cap ∧ Row w ao' (byts p.2) ∧ p.2.length ≤ cap ∧ cap ≤ 9223372036854775807 ∧ (ao' = none → cap = 0) ∧ (∀ a, ao' = some a → B ≤ a.block)
theorem SegsN.segs {w : World} {B : Nat} {ao : Option Addr} {l : List SegD} (h : SegsN w B ao l) : Segs w ao l := by
  intro i p hi
  obtain ⟨b, off, v, h1, _, h3, h4, ao', cap, h5, h6, h7, h8, h9, _⟩ := h i p hi
  exact ⟨b, off, v, h1, h3, h4, ao', cap, h5, h6, h7, h8, h9⟩
theorem SegsN.nil (w : World) (B : Nat) (ao : Option Addr) : SegsN w B ao [] := by intro i p h; simp at h
theorem SegsN.kept {w w' : World} {B : Nat} {ao : Option Addr} {l : List SegD} (h : SegsN w B ao l) (hk : ∀ k, B ≤ k → k < w.heap.size → w'.heap[k]? = w.heap[k]?) : SegsN w' B ao l := by
  intro i p hi
  obtain ⟨b, off, v, h1, h2, h3, h4, ao', cap, h5, h6, h7, h8, h9, h10⟩ := h i p hi
  have hb := World.block_lt_of_cell? w _ h3
  refine ⟨b, off, v, h1, h2, (World.cell?_of_block (w := w) (hk b h2 hb)).trans h3, (World.cell?_of_block (w := w) (hk b h2 hb)).trans h4, ao', cap, h5, ?_, h7, h8, h9, h10⟩
  intro j u hj
  obtain ⟨a, ha, hc⟩ := h6 j u hj
  have e : (a.add j).block = a.block := block_add a j
  have hlt := World.block_lt_of_cell? w _ hc
  exact ⟨a, ha, (World.cell?_of_block (w := w) (hk _ (by rw [e]; exact h10 a ha) hlt)).trans hc⟩

/-- Segments are returned, and an error's number. -/
def RetSegs (w : World) (p : List SegD × Int) (e : Ending) (w' : World) : Prop :=
  ∃ ao cap, e = .returned (.tuple #[.slice ao p.1.length cap, .int .i64 p.2]) ∧ SegsN w' w.heap.size ao p.1 ∧ p.1.length ≤ cap ∧ cap ≤ 9223372036854775807 ∧ Ext w w'
theorem RetSegs.nil (w w' : World) (c : Int) (h : Ext w w') : RetSegs w ([], c) (.returned (.tuple #[.slice none 0 0, .int .i64 c])) w' :=
  ⟨none, 0, rfl, SegsN.nil _ _ _, Nat.le_refl _, by decide, h⟩
theorem RetSegs.own {w w' : World} {B g : Nat} {e : TypeId} {v : Value} {cells : List Value} {l : List SegD} {c : Int} (h : w'.ownsRow B e 2 v l.length cells) (hB : w.heap.size ≤ B) (hs : SegCells w.heap.size w' g v cells l) (hx : Ext w w') :
    RetSegs w (l, c) (.returned (.tuple #[v, .int .i64 c])) w' := by
  rcases h.2 with ⟨rfl, hn⟩ | ⟨g', cap, cur, rfl, hb, hg, hnc, hcm, hcs, htake⟩
  · obtain rfl := List.eq_nil_of_length_eq_zero hn
    exact RetSegs.nil _ _ _ hx
  · refine ⟨some ⟨g', 0, none⟩, cap, rfl, ?_, hnc, by unfold maxLen at hcm; omega, hx⟩
    intro i p hi
    obtain ⟨u, h1, h2, ao, cp, h3, h4, h5, h6, h7, h8⟩ := hs i p hi
    have hi' : i < l.length := (List.getElem?_eq_some_iff.1 hi).1
    refine ⟨g', 0, u, rfl, Nat.le_trans hB hb, ?_, ?_, ao, cp, h3, h4, h5, h6, h7, fun a ha => (h8 a ha).2.2.2⟩
    · rw [Nat.zero_add, h.cellAt (i * 2) (by omega)]; exact h1
    · rw [Nat.zero_add, h.cellAt (i * 2 + 1) (by omega)]; exact h2

theorem dl_1 {k : Nat} {l : List SegD} {bs : List Bool} (h : bs.length < 4) (h2 : num bs = 0) : decL k l bs = (l, 0) := by rw [decL, dif_pos h, if_pos h2]
theorem dl_2 {k : Nat} {l : List SegD} {bs : List Bool} (h : bs.length < 4) (h2 : num bs ≠ 0) : decL k l bs = ([], 22) := by rw [decL, dif_pos h, if_neg h2]
theorem dl_3 {k : Nat} {l : List SegD} {bs : List Bool} (h : ¬ bs.length < 4) (h2 : num (bs.take 4) = 0) : decL k l bs = (l, 0) := by rw [decL, dif_neg h, if_pos h2]
theorem dl_4 {k : Nat} {l : List SegD} {bs : List Bool} (h : ¬ bs.length < 4) (h2 : num (bs.take 4) ≠ 0) (h3 : okMode (num (bs.take 4)) = false) : decL k l bs = ([], 22) := by rw [decL, dif_neg h, if_neg h2, if_pos h3]
theorem dl_5 {k : Nat} {l : List SegD} {bs : List Bool} (h : ¬ bs.length < 4) (h2 : num (bs.take 4) ≠ 0) (h3 : okMode (num (bs.take 4)) = true) (h4 : 4096 ≤ l.length) : decL k l bs = ([], 4) := by
  rw [decL, dif_neg h, if_neg h2, if_neg (by rw [h3]; simp), if_pos h4]
theorem dl_6 {k : Nat} {l : List SegD} {bs : List Bool} {d : List UInt8} {E : Int} {r : List Bool} (h : ¬ bs.length < 4) (h2 : num (bs.take 4) ≠ 0) (h3 : okMode (num (bs.take 4)) = true) (h4 : ¬ 4096 ≤ l.length) (h5 : readRes (num (bs.take 4)) k (bs.drop 4) = (d, E, r)) (hE : E ≠ 0) : decL k l bs = ([], E) := by
  rw [decL, dif_neg h, if_neg h2, if_neg (by rw [h3]; simp), if_neg h4, h5, if_pos hE]
theorem dl_7 {k : Nat} {l : List SegD} {bs : List Bool} {d : List UInt8} {r : List Bool} (h : ¬ bs.length < 4) (h2 : num (bs.take 4) ≠ 0) (h3 : okMode (num (bs.take 4)) = true) (h4 : ¬ 4096 ≤ l.length) (h5 : readRes (num (bs.take 4)) k (bs.drop 4) = (d, 0, r)) : decL k l bs = decL k (l ++ [(num (bs.take 4), d)]) r := by
  rw [decL, dif_neg h, if_neg h2, if_neg (by rw [h3]; simp), if_neg h4, h5, if_neg (by simp)]

set_option maxRecDepth 20000 in
set_option maxHeartbeats 3200000 in
theorem decode_any (ao : Option Addr) (len cap : Nat) (bs : List Bool) (c : Int) (w : World) (hl : bs.length = len) (hb : len ≤ 9223372036854775807) (hn0 : ao = none → cap = 0) (hr : Row w ao (bools bs)) :
    Calls Try.prog 23 #[.slice ao len cap, .int .i64 c] w (RetSegs w (decRes bs c)) := by
  have HL := Lib.hid hl
  rcases class_cases c with hcc | ⟨hcc, hcc'⟩ | hcc
  · rw [show decRes bs c = ([], 1) from by unfold decRes; rw [if_pos (Or.inl hcc)]]
    clear hl
    go_enter Try.func23, Try.ntmps23
    go_wp2_with fail
    go_ret2
    exact RetSegs.nil _ _ _ (Ext.refl _)
  · rw [show decRes bs c = ([], 1) from by unfold decRes; rw [if_pos (Or.inr hcc')]]
    clear hl
    go_enter Try.func23, Try.ntmps23
    go_wp2_with fail
    go_ret2
    exact RetSegs.nil _ _ _ (Ext.refl _)
  · obtain ⟨k, rfl, hk⟩ : ∃ k : Nat, c = k ∧ k ≤ 2 := ⟨c.toNat, by omega, by omega⟩
    clear hcc
    by_cases hbig : 1048576 < len
    · rw [show decRes bs k = ([], 4) from by unfold decRes; rw [if_neg (by omega), if_pos (by omega)]]
      clear hl
      go_enter Try.func23, Try.ntmps23
      go_wp2_with fail
      go_ret2
      exact RetSegs.nil _ _ _ (Ext.refl _)
    · rw [show decRes bs k = decL k [] bs from by unfold decRes; rw [if_neg (by omega), if_neg (by omega)]; rfl]
      have HNR := Lib.hid (newReader2_any ao len cap bs w hl (by omega) hn0 hr)
      obtain ⟨R, hR⟩ : ∃ R, R = decL k [] bs := ⟨_, rfl⟩
      rw [← hR]
      have HR := Lib.hid hR
      clear hR hl
      go_enter Try.func23, Try.ntmps23
      go_wp2_with fail
      refine HNR.out.mono ?_
      rintro e wS ⟨g, h, rfl, hrd, hwg, hh, hxS⟩
      have HXS := Lib.hid hxS
      have HRD := Lib.hid hrd
      have hgS := hrd.lt
      clear hxS hrd
      go_wp2_with fail
      go_loopg [7, 8, 9, 10, 11, 12] (len + 1) (fun q v _ _ _ _ _ wr => ∃ (l : List SegD) (cur : List Bool) (cells : List Value), cur.length < q ∧ cur.length ≤ len ∧ l.length ≤ 4096 ∧ wr.ownsRow wS.heap.size 33 2 v l.length cells ∧ Hid (SegCells w.heap.size wr g v cells l) ∧ Hid (Rd2 wr g h cur) ∧ Hid (decL k l cur = R) ∧ Hid (KeepG g wS (.slice none 0 0) wr v))
      case atStart => exact ⟨[], bs, [], by rw [HL.out]; omega, by rw [HL.out]; exact Nat.le_refl _, by simp, World.ownsRow_nil _ _ _ _, SegCells.nil _ _ _ _, HRD, HR.out.symm, KeepG.ofExt (Ext.refl _) _⟩
      case round =>
        obtain ⟨l, cur, cells, hq, hcl, hl4, hown, HSC, HRC, HDL, HKG⟩ := hrel
        have HXW : Hid (Ext w wr) := by
          have h1 := HKG.out
          refine ⟨h1.os.trans HXS.out.os, h1.tape.trans HXS.out.tape, h1.output.trans HXS.out.output, Nat.le_trans HXS.out.size h1.size, fun k' hk' => ?_⟩
          exact (h1.block k' (Nat.lt_of_lt_of_le hk' HXS.out.size) (by omega) (by simp [Value.ownBlock])).trans (HXS.out.block k' hk')
        have HLF := Lib.hid (left2_any g h cur wr HRC.out)
        by_cases h4 : cur.length < 4
        · obtain ⟨nc, hnc⟩ : ∃ nc, nc = cur.length := ⟨_, rfl⟩
          rw [← hnc] at HLF h4
          have HNC := Lib.hid hnc
          have HTK := Lib.hid (take2_any g h cur nc wr HRC.out (by omega) (by omega))
          rw [hnc, List.take_of_length_le (Nat.le_refl _), ← hnc] at HTK
          clear hnc
          go_wp2_with fail
          refine HLF.out.mono ?_
          rintro e w' ⟨rfl, rfl⟩
          go_wp2_with fail
          refine HLF.out.mono ?_
          rintro e w' ⟨rfl, rfl⟩
          go_wp2_with fail
          refine HTK.out.mono ?_
          rintro e w2 ⟨rfl, hr2, hg2⟩
          simp only [two]
          have HX2 : Hid (Ext w w2) := by
            have h1 := HXW.out
            refine ⟨hg2.os.trans h1.os, hg2.tape.trans h1.tape, hg2.output.trans h1.output, Nat.le_trans h1.size hg2.size, fun k' hk' => ?_⟩
            exact (hg2.block k' (Nat.lt_of_lt_of_le hk' h1.size) (fun e => by have := Option.some.inj e; omega)).trans (h1.block k' hk')
          have HK2 := Lib.hid (KeepG.ofGrown hg2 u7)
          have HOW2 : Hid (w2.ownsRow wS.heap.size 33 2 u7 l.length cells) := hown.kept hg2 (Or.inr (own_below hown hgS))
          by_cases hz : num cur = 0
          · have HR2 : Hid (R = (l, 0)) := by show _ = _; rw [← HDL.out]; exact dl_1 (by rw [← HNC.out]; exact h4) hz
            have hz' : (num cur != 0) = false := by simp [hz]
            clear hz hr2 hg2 hown
            go_wp2_with fail
            go_ret2
            rw [HR2.out]
            exact RetSegs.own HOW2.out HXS.out.size (HSC.out.keep HK2.out) HX2.out
          · have HR2 : Hid (R = ([], 22)) := by show _ = _; rw [← HDL.out]; exact dl_2 (by rw [← HNC.out]; exact h4) hz
            have hz' : (num cur != 0) = true := by simp [hz]
            clear hz hr2 hg2 hown
            go_wp2_with fail
            go_ret2
            rw [HR2.out]
            exact RetSegs.nil _ _ _ HX2.out
        · have H4 := Lib.hid h4
          obtain ⟨nc, hnc⟩ : ∃ nc, nc = cur.length := ⟨_, rfl⟩
          rw [← hnc] at HLF h4
          have HNC := Lib.hid hnc
          have HTK := Lib.hid (take2_any g h cur 4 wr HRC.out (by omega) (by omega))
          have hM : num (cur.take 4) = (numN (cur.take 4) : Int) := numN_num _
          obtain ⟨M, hM'⟩ : ∃ M, M = numN (cur.take 4) := ⟨_, rfl⟩
          rw [← hM'] at hM
          have HM := Lib.hid hM
          rw [hM] at HTK
          have hM16 : M < 16 := by
            have h1 := numN_lt (cur.take 4)
            rw [List.length_take, Nat.min_eq_left (by omega), ← hM'] at h1
            omega
          clear hM hM' hnc
          go_wp2_with fail
          refine HLF.out.mono ?_
          rintro e w' ⟨rfl, rfl⟩
          go_wp2_with fail
          refine HTK.out.mono ?_
          rintro e w2 ⟨rfl, hr2, hg2⟩
          simp only [two]
          have HX2 : Hid (Ext w w2) := by
            have h1 := HXW.out
            refine ⟨hg2.os.trans h1.os, hg2.tape.trans h1.tape, hg2.output.trans h1.output, Nat.le_trans h1.size hg2.size, fun k' hk' => ?_⟩
            exact (hg2.block k' (Nat.lt_of_lt_of_le hk' h1.size) (fun e => by have := Option.some.inj e; omega)).trans (h1.block k' hk')
          have HK2 := Lib.hid (KeepG.ofGrown hg2 u7)
          have HOW2 : Hid (w2.ownsRow wS.heap.size 33 2 u7 l.length cells) := hown.kept hg2 (Or.inr (own_below hown hgS))
          have HR2 := Lib.hid hr2
          clear hr2 hg2 hown
          by_cases hz : M = 0
          · have HRR : Hid (R = (l, 0)) := by show _ = _; rw [← HDL.out]; exact dl_3 H4.out (by rw [HM.out, hz]; rfl)
            subst hz
            go_wp2_with fail
            go_ret2
            rw [HRR.out]
            exact RetSegs.own HOW2.out HXS.out.size (HSC.out.keep HK2.out) HX2.out
          · have hz' : ((M : Int) == 0) = false := by simp [hz]
            have HZ : Hid (num (cur.take 4) ≠ 0) := by show _ ≠ _; rw [HM.out]; omega
            clear hz
            cases hok : okMode (M : Int)
            · have HRR : Hid (R = ([], 22)) := by show _ = _; rw [← HDL.out]; exact dl_4 H4.out HZ.out (by rw [HM.out]; exact hok)
              have HOK := Lib.hid hok
              clear hok
              go_wp2_with fail
              refine (known_any _ _).mono ?_
              rw [HOK.out]
              rintro e w' ⟨rfl, rfl⟩
              go_wp2_with fail
              go_ret2
              rw [HRR.out]
              exact RetSegs.nil _ _ _ HX2.out
            · have HOK := Lib.hid hok
              have HOKM : Hid (okMode (num (cur.take 4)) = true) := by show _ = _; rw [HM.out]; exact hok
              clear hok
              obtain ⟨vo, vc, rfl⟩ : ∃ vo vc, u7 = .slice vo l.length vc := by
                rcases HOW2.out.2 with ⟨hv, hn⟩ | ⟨g', cap', cur', hv, _⟩
                · exact ⟨none, 0, by rw [hv, hn]⟩
                · exact ⟨_, _, hv⟩
              by_cases hl5 : 4096 ≤ l.length
              · have HRR : Hid (R = ([], 4)) := by show _ = _; rw [← HDL.out]; exact dl_5 H4.out HZ.out HOKM.out hl5
                go_wp2_with fail
                refine (known_any _ _).mono ?_
                rw [HOK.out]
                rintro e w' ⟨rfl, rfl⟩
                go_wp2_with fail
                go_ret2
                rw [HRR.out]
                exact RetSegs.nil _ _ _ HX2.out
              · obtain ⟨d, E, rest, hrr⟩ : ∃ d E rest, readRes (M : Int) k (cur.drop 4) = (d, E, rest) := ⟨_, _, _, rfl⟩
                have hrl := readRes_left (M : Int) k (cur.drop 4)
                rw [hrr, List.length_drop] at hrl
                simp only at hrl
                have HRS : Hid (readRes (num (cur.take 4)) k (cur.drop 4) = (d, E, rest)) := by show _ = _; rw [HM.out]; exact hrr
                have HH2 : Hid (h < w2.heap.size) := Nat.lt_of_lt_of_le hh (Nat.le_trans HKG.out.size HK2.out.size)
                have HRE := Lib.hid (read_any g h (M : Int) k (cur.drop 4) w2 HOK.out hk HH2.out HR2.out)
                rw [hrr] at HRE
                clear hrr
                have hrest : rest.length < nc := by have := HNC.out; omega
                clear hrl
                go_wp2_with fail
                refine (known_any _ _).mono ?_
                rw [HOK.out]
                rintro e w' ⟨rfl, rfl⟩
                go_wp2_with fail
                refine HRE.out.mono ?_
                rintro e w3 ⟨s3, rfl, hown3, hrd3, hg3⟩
                simp only at hown3 hrd3 ⊢
                have HX3 : Hid (Ext w w3) := by
                  have h1 := HX2.out
                  refine ⟨hg3.os.trans h1.os, hg3.tape.trans h1.tape, hg3.output.trans h1.output, Nat.le_trans h1.size hg3.size, fun k' hk' => ?_⟩
                  exact (hg3.block k' (Nat.lt_of_lt_of_le hk' h1.size) (fun e => by have := Option.some.inj e; omega)).trans (h1.block k' hk')
                by_cases hE : E = 0
                case neg =>
                  have HRR : Hid (R = ([], E)) := by show _ = _; rw [← HDL.out]; exact dl_6 H4.out HZ.out HOKM.out hl5 HRS.out hE
                  have hE' : (E != 0) = true := by simp [hE]
                  obtain ⟨so3, sc3, rfl, _⟩ := own_row hown3
                  clear hE hown3 hrd3 hg3
                  go_wp2_with fail
                  go_ret2
                  rw [HRR.out]
                  exact RetSegs.nil _ _ _ HX3.out
                case pos =>
                  subst hE
                  have HDL2 : Hid (decL k (l ++ [((M : Int), d)]) rest = R) := by show _ = _; rw [← HDL.out, dl_7 H4.out HZ.out HOKM.out hl5 HRS.out, HM.out]
                  have HRD3 := Lib.hid (hrd3 rfl)
                  have HK3 := Lib.hid (HK2.out.trans (KeepG.ofGrown hg3 (.slice vo l.length vc)))
                  have HOW3 : Hid (w3.ownsRow wS.heap.size 33 2 (.slice vo l.length vc) l.length cells) := HOW2.out.kept hg3 (Or.inr (own_below HOW2.out hgS))
                  obtain ⟨so3, sc3, rfl, hso3, hsm3, _, hsr3⟩ := own_row hown3
                  have HDA : Hid (DatA w.heap.size w3 g (.slice vo l.length vc) (.slice so3 d.length sc3) d) := by
                    refine ⟨so3, sc3, rfl, hsr3, hso3, by unfold maxLen at hsm3; omega, own_nil' hown3, ?_⟩
                    intro a ha
                    subst ha
                    have h1 := hown3.lt a.block rfl
                    have h2 := HR2.out.lt
                    refine ⟨by omega, ?_, h1.2, Nat.le_trans HX2.out.size h1.1⟩
                    intro e
                    have := (HOW2.out.lt a.block e).2
                    omega
                  have HSZ : Hid (wS.heap.size ≤ w3.heap.size) := Nat.le_trans HKG.out.size HK3.out.size
                  have hown3' := HOW3.out
                  have hll : l.length ≤ 4096 := hl4
                  clear hown3 hrd3 hg3 hsr3
                  go_wp2_with (at_builtin; refine wpList_pushK rfl _ _ 25 rfl wS.heap.size 33 (.agg #[.int .i64 0, .slice none 0 0]) 2 32 Try.infoSeg rfl (by decide) Try.underlying25 _ rfl _ _ hown3' [.int .i64 (M : Int), .slice so3 d.length sc3] rfl rfl (by simp [Value.oneCell']) (by omega) (by omega) HSZ.out ?_; intro s4 w4 hown4 hk4)
                  have HC2 : Hid (cells.length = l.length * 2) := hown3'.1
                  have HSC4 := Lib.hid (((HSC.out.keep HK3.out).snoc (m := (M : Int)) HC2.out HDA.out).keep (KeepG.ofKeep hk4))
                  have HRD4 := Lib.hid (HRD3.out.keep hk4 (own_below hown3' hgS) (own_below hown3' hh))
                  have HKG4 := Lib.hid (HKG.out.trans (HK3.out.trans (KeepG.ofKeep hk4)))
                  have hown4' : w4.ownsRow wS.heap.size 33 2 s4 (l ++ [((M : Int), d)]).length (cells ++ [.int .i64 (M : Int), .slice so3 d.length sc3]) := by
                    rw [List.length_append]; exact hown4
                  clear hown4 hk4 hown3' HK3 HOW3 HDA HRD3
                  go_roundg (gk - 1)
                  case rel => exact ⟨l ++ [((M : Int), d)], rest, _, by have := HNC.out; omega, by have := HNC.out; omega, by rw [List.length_append]; simp; omega, hown4', HSC4, HRD4, HDL2, HKG4⟩
                  case measure => omega

end Go.Proofs.Ythebfpolijajgaa
