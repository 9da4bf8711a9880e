/-
  Contracts of bits.Parse, barscanref01.Parse, bits.Format, barscanref01.Format.
  Conditions: the slices' cells are those of the lists; lengths are bounded.
-/
import Derived.Test.YthebfpolijajgaaBitsD
namespace Go.Proofs.Ythebfpolijajgaa
open Go.RowKit Go.Bs


def pbits (s : List UInt8) : List Bool := s.map (· == 49)
theorem length_pbits (s : List UInt8) : (pbits s).length = s.length := by simp [pbits]
def okc (c : UInt8) : Bool := c == 48 || c == 49
def parseRes (s : List UInt8) : List Bool × Int := if 1048576 < s.length then ([], 4) else if s.all okc then (pbits s, 0) else ([], 6)
theorem parseRes_1 {s : List UInt8} (h : 1048576 < s.length) : parseRes s = ([], 4) := by unfold parseRes; rw [if_pos h]
theorem parseRes_2 {s : List UInt8} (h : ¬ 1048576 < s.length) (h2 : s.all okc = true) : parseRes s = (pbits s, 0) := by unfold parseRes; rw [if_neg h, if_pos h2]
theorem parseRes_3 {s : List UInt8} (h : ¬ 1048576 < s.length) (k : Nat) (hk : k < s.length) (h2 : okc s[k] = false) : parseRes s = ([], 6) := by
  unfold parseRes; rw [if_neg h, if_neg]
  intro h4
  rw [List.all_eq_true] at h4
  rw [h4 _ (List.getElem_mem hk)] at h2
  cases h2

theorem u8_eq_iff (c : UInt8) (n : Nat) (hn : n < 256) : c = UInt8.ofNat n ↔ (c.toNat : Int) = n := by
  constructor
  · rintro rfl; simp; omega
  · intro h
    apply UInt8.toNat_inj.1
    simp; omega
theorem okc_cases (c : UInt8) : (okc c = true ∧ (c == 49) = false ∧ (c.toNat : Int) = 48) ∨ (okc c = true ∧ (c == 49) = true ∧ (c.toNat : Int) = 49) ∨ (okc c = false ∧ (c.toNat : Int) ≠ 48 ∧ (c.toNat : Int) ≠ 49) := by
  have h8 := u8_eq_iff c 48 (by decide)
  have h9 := u8_eq_iff c 49 (by decide)
  by_cases a : c = 48
  · left; subst a; decide
  · by_cases b : c = 49
    · right; left; subst b; decide
    · right; right
      refine ⟨by simp [okc, a, b], fun h => a (h8.2 h), fun h => b (h9.2 h)⟩
theorem data_at (s : ByteArray) (k : Nat) (h : k < s.size) : s.data.toList[k]'(by simpa using h) = s[k] := rfl

set_option maxHeartbeats 800000 in
theorem rparse_any (s : ByteArray) (w : World) (hb : s.size ≤ 4611686018427387904) :
    Calls Try.prog 53 #[.string s] w (RetSl w (bools (parseRes s.data.toList).1, (parseRes s.data.toList).2)) := by
  have HZ : Hid (s.data.toList.length = s.size) := by show _ = _; simp
  go_enter Try.func53, Try.ntmps53
  go_wp2_with fail
  · go_ret2
    rw [parseRes_1 (by rw [HZ.out]; omega)]
    exact RetSl.nil _ _ _ (Ext.refl _)
  go_loopw [4, 5] (fun v i wr => ∃ k : Nat, k ≤ s.size ∧ i = .int .i64 k ∧ Hid ((s.data.toList.take k).all okc = true) ∧ wr.ownsRow w.heap.size 4 1 v k (bools ((pbits s.data.toList).take k)) ∧ Below w.heap.size w wr)
     (fun _ i _ => s.size - (intOf i).toNat)
  case atStart => exact ⟨0, Nat.zero_le _, rfl, rfl, World.ownsRow_nil _ _ _ _, Below.refl _ _⟩
  case round =>
    obtain ⟨k, hk, rfl, HA, hown, hbel⟩ := hrel
    have hsz := hbel.size
    by_cases hlt : k < s.size
    · have HD := Lib.hid (data_at s k hlt)
      have hlt' : k < s.data.toList.length := by rw [HZ.out]; exact hlt
      have HAN : Hid ((s.data.toList.take (k + 1)).all okc = okc s[k]) := by
        show _ = _
        rw [List.take_succ_eq_append_getElem hlt', List.all_append, HA.out, HD.out]; simp
      have HM : Hid (bools ((pbits s.data.toList).take (k + 1)) = bools ((pbits s.data.toList).take k) ++ [.bool (s[k] == 49)]) := by
        show _ = _
        rw [List.take_succ_eq_append_getElem (by rw [length_pbits]; exact hlt'), bools_append, bools_one]; unfold pbits; rw [List.getElem_map, HD.out]
      rcases okc_cases s[k] with ⟨ha, hb', hv⟩ | ⟨ha, hb', hv⟩ | ⟨ha, hv, hv'⟩
      · have HO := Lib.hid ha
        have HB := Lib.hid hb'
        have q1 : ((s[k].toNat : Int) != 48) = false := by rw [hv]; rfl
        have q2 : ((s[k].toNat : Int) == 49) = false := by rw [hv]; rfl
        clear ha hb' hv
        go_wp2_with (at_builtin; refine wpList_push rfl _ _ 40 rfl w.heap.size 4 (.bool false) 1 Try.infoBool rfl Try.underlying40 _ rfl k _ hown _ rfl rfl (by omega) (by omega) hbel (by omega) ?_)
        intro s2 w2 hown2 hbel2 _
        clear hown
        go_wp2
        go_roundw
        case rel => exact ⟨k + 1, by omega, by go_num, HAN.out.trans HO.out, by rw [HM.out, HB.out]; exact hown2, hbel2⟩
        case measure => simp [intOf]; omega
      · have HO := Lib.hid ha
        have HB := Lib.hid hb'
        have q0 : ((s[k].toNat : Int) != 48) = true := by rw [hv]; rfl
        have q1 : ((s[k].toNat : Int) != 49) = false := by rw [hv]; rfl
        have q2 : ((s[k].toNat : Int) == 49) = true := by rw [hv]; rfl
        clear ha hb' hv
        go_wp2_with (at_builtin; refine wpList_push rfl _ _ 40 rfl w.heap.size 4 (.bool false) 1 Try.infoBool rfl Try.underlying40 _ rfl k _ hown _ rfl rfl (by omega) (by omega) hbel (by omega) ?_)
        intro s2 w2 hown2 hbel2 _
        clear hown
        go_wp2
        go_roundw
        case rel => exact ⟨k + 1, by omega, by go_num, HAN.out.trans HO.out, by rw [HM.out, HB.out]; exact hown2, hbel2⟩
        case measure => simp [intOf]; omega
      · have HO := Lib.hid ha
        have q0 : ((s[k].toNat : Int) != 48) = true := by rw [bne_iff_ne]; exact hv
        have q1 : ((s[k].toNat : Int) != 49) = true := by rw [bne_iff_ne]; exact hv'
        clear ha hv hv'
        go_wp2_with fail
        go_ret2
        rw [parseRes_3 (by rw [HZ.out]; omega) k hlt' (by rw [HD.out]; exact HO.out)]
        exact RetSl.nil _ _ _ hbel
    · go_wp2_with fail
      go_ret2
      have hA := HA.out
      rw [List.take_of_length_le (by rw [HZ.out]; omega)] at hA
      rw [List.take_of_length_le (by rw [length_pbits, HZ.out]; omega)] at hown
      rw [parseRes_2 (by rw [HZ.out]; omega) hA]
      exact RetSl.own hown hbel

def fmtBits (xs : List Bool) : List UInt8 := xs.map fun b => if b then 49 else 48
theorem length_fmtBits (xs : List Bool) : (fmtBits xs).length = xs.length := by simp [fmtBits]
theorem fmtBits_at (xs : List Bool) (k : Nat) (h : k < xs.length) : (byts (fmtBits xs))[k]? = some (.int .u8 (if xs[k] then 49 else 48)) := by
  rw [byts_at _ _ (by rw [length_fmtBits]; exact h)]; simp only [fmtBits, List.getElem_map]
  cases xs[k] <;> rfl

end Go.Proofs.Ythebfpolijajgaa
