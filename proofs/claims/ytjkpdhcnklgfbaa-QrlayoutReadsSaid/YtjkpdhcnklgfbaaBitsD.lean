/-
  Contracts of bits.Words, barscanref01.Words, bits.FromWords, barscanref01.FromWords.
  Conditions: the slices' cells are those of the lists; lengths are bounded.
-/
import Derived.Test.YtjkpdhcnklgfbaaBitsC
namespace Go.Proofs.Ytjkpdhcnklgfbaa
open Go.RowKit Go.Bs


/-- The bits of a word: those from a place on, filled up. -/
def pad (xs : List Bool) (p size : Nat) (fill : Bool) : List Bool := (xs.drop p ++ List.replicate size fill).take size
theorem length_pad (xs : List Bool) (p size : Nat) (fill : Bool) : (pad xs p size fill).length = size := by simp [pad]
theorem pad_in (xs : List Bool) (p size : Nat) (fill : Bool) (j : Nat) (h : j < size) (h' : p + j < xs.length) : (pad xs p size fill)[j]'(by rw [length_pad]; exact h) = xs[p + j] := by
  unfold pad; rw [List.getElem_take, List.getElem_append_left (by simp; omega)]; simp
theorem pad_out (xs : List Bool) (p size : Nat) (fill : Bool) (j : Nat) (h : j < size) (h' : xs.length ≤ p + j) : (pad xs p size fill)[j]'(by rw [length_pad]; exact h) = fill := by
  unfold pad; rw [List.getElem_take, List.getElem_append_right (by simp; omega)]; simp
theorem pad_take (xs : List Bool) (p size : Nat) (fill : Bool) (m : Nat) (h : m ≤ size) (h' : p + m ≤ xs.length) : (pad xs p size fill).take m = (xs.drop p).take m := by
  unfold pad; rw [List.take_take, List.take_append_of_le_length (by simp; omega)]; congr 1; omega

def wordsTo (xs : List Bool) (size : Nat) (fill : Bool) (k : Nat) : List Int := (List.range k).map fun j => num (pad xs (j * size) size fill)
theorem wordsTo_succ (xs : List Bool) (size : Nat) (fill : Bool) (k : Nat) : wordsTo xs size fill (k + 1) = wordsTo xs size fill k ++ [num (pad xs (k * size) size fill)] := by simp [wordsTo, List.range_succ]
def wordsRes (xs : List Bool) (size : Int) (fill : Bool) : List Int × Int :=
  if size < 1 ∨ 62 < size then ([], 3) else (wordsTo xs size.toNat fill ((xs.length + size.toNat - 1) / size.toNat), 0)
theorem wordsRes_1 {xs : List Bool} {size : Int} {fill : Bool} (h : size < 1 ∨ 62 < size) : wordsRes xs size fill = ([], 3) := by unfold wordsRes; rw [if_pos h]
theorem wordsRes_2 {xs : List Bool} {size : Int} {fill : Bool} (h : ¬ (size < 1 ∨ 62 < size)) :
    wordsRes xs size fill = (wordsTo xs size.toNat fill ((xs.length + size.toNat - 1) / size.toNat), 0) := by unfold wordsRes; rw [if_neg h]

/-- The rounds of a loop by steps of 'size': k of them are done. -/
theorem div_up_iff (n s k : Nat) (hs : 0 < s) (h1 : n ≤ k * s) (h2 : k = 0 ∨ (k - 1) * s < n) : k = (n + s - 1) / s := by
  symm
  rcases h2 with rfl | h2
  · simp at h1; subst h1; simp; omega
  · obtain ⟨j, rfl⟩ : ∃ j, k = j + 1 := ⟨k - 1, by rcases k with _ | k <;> simp at *; omega⟩
    simp only [Nat.add_sub_cancel] at h2
    rw [Nat.div_eq_iff hs, Nat.add_mul] at *
    omega

theorem num_pad_bd (l : List Bool) (h : l.length ≤ 62) (k : Nat) (hk : k < l.length) : 0 ≤ num (l.take k) ∧ num (l.take k) < 2305843009213693952 :=
  num_take_bd l k (by omega)

set_option maxHeartbeats 800000 in
theorem words_any (ao : Option Addr) (len cap : Nat) (xs : List Bool) (size : Int) (fill : Bool) (w : World) (hl : xs.length = len) (hcap : len ≤ cap) (hb : len ≤ 1048576) (hr : Row w ao (bools xs)) :
    Calls Try.prog 64 #[.slice ao len cap, .int .i64 size, .bool fill] w (RetSl w (ints (wordsRes xs size fill).1, (wordsRes xs size fill).2)) := by
  have HL := Lib.hid hl
  have hle : xs.length ≤ len := by omega
  have hge : len ≤ xs.length := by omega
  clear hl
  go_enter Try.func64, Try.ntmps64
  go_wp2_with fail
  all_goals try (go_ret2; rw [wordsRes_1 (by omega)]; exact RetSl.nil _ _ _ (Ext.refl _))
  obtain ⟨q, rfl⟩ := Int.eq_ofNat_of_zero_le (show 0 ≤ size by omega)
  go_loopw [8, 9, 10, 11, 41] (fun s i _ _ _ wr => ∃ k p : Nat, Hid (p = k * q) ∧ (k = 0 ∨ Hid ((k - 1) * q < len)) ∧ p ≤ len + 62 ∧ k ≤ p ∧ i = .int .i64 p ∧ wr.ownsRow w.heap.size 3 1 s k (ints (wordsTo xs q fill k)) ∧ Below w.heap.size w wr)
     (fun _ i _ _ _ _ => len + 62 - (intOf i).toNat)
  case atStart => exact ⟨0, 0, (Nat.zero_mul q).symm, Or.inl rfl, Nat.zero_le _, Nat.zero_le _, rfl, World.ownsRow_nil _ _ _ _, Below.refl _ _⟩
  case round =>
    obtain ⟨k, p, HP, HK, hp, hkp, rfl, hown, hbel⟩ := hrel
    have hsz := hbel.size
    by_cases hlt : p < len
    · have HKS : Hid ((k + 1 - 1) * q < len) := by have := HP.out; show (k + 1 - 1) * q < len; rw [Nat.add_sub_cancel]; omega
      have HPS : Hid (p + q = (k + 1) * q) := by have := HP.out; show p + q = (k + 1) * q; rw [Nat.add_mul]; omega
      have HPL := Lib.hid (length_pad xs p q fill)
      obtain ⟨m, hm1, hm2, hm3⟩ : ∃ m : Nat, m ≤ q ∧ p + m ≤ len ∧ ((p + q ≤ len ∧ q ≤ m) ∨ (len < p + q ∧ len ≤ p + m)) := ⟨min q (len - p), by omega, by omega, by omega⟩
      rcases hm3 with ⟨h, h'⟩ | ⟨h, h'⟩
      all_goals
        go_wp2_with (go_at_call 85; refine (number_any _ _ _ ((xs.drop p).take m) _ (by simp only [List.length_take, List.length_drop]; omega) (by omega) (by rw [bools_cut]; exact (hr.ext hbel).cut _ _ (fun _ _ => by first | rfl | omega))).mono ?_; rintro e w' ⟨rfl, rfl⟩)
        rw [← pad_take xs p q fill m hm1 (by omega)]
        go_loop [11, 41] (fun v j => ∃ i : Nat, m + i ≤ q ∧ j = .int .i64 i ∧ v = .int .i64 (num ((pad xs p q fill).take (m + i)))) (fun _ j => q - (intOf j).toNat)
        case atStart => exact ⟨0, by omega, rfl, rfl⟩
        case round =>
          obtain ⟨i, hi, rfl, rfl⟩ := hrel
          by_cases hlt2 : m + i < q
          · obtain ⟨b0, b1⟩ := num_take_bd (pad xs p q fill) (m + i) (by omega)
            have hS := num_take (pad xs p q fill) (m + i) (by rw [HPL.out]; omega)
            rw [pad_out xs p q fill (m + i) (by omega) (by omega)] at hS
            have HS := Lib.hid hS
            clear hS
            cases fill
            all_goals try (exfalso; omega)
            all_goals
              go_wp2
              go_round
              case rel =>
                refine ⟨i + 1, by omega, by go_num, int_eq ?_⟩
                have := HS.out
                simp only [Bool.false_eq_true, if_false, if_true, Int.add_zero] at this
                rw [show m + (i + 1) = m + i + 1 from rfl]
                first | omega | (rw [i64_or_one _ (by omega) (by omega)]; omega)
              case measure => simp [intOf]; omega
          · obtain ⟨b0, b1⟩ := num_le62 ((pad xs p q fill).take (m + i)) (by rw [List.length_take, HPL.out]; omega)
            go_wp2_with (at_builtin; refine wpList_push rfl _ _ 60 rfl w.heap.size 3 (.int .i64 0) 8 Try.infoInt rfl Try.underlying60 _ rfl k _ hown _ rfl rfl (by omega) (by omega) hbel (by omega) ?_)
            intro s2 w2 hown2 hbel2 _
            clear hown
            go_wp2
            go_roundw
            case rel =>
              refine ⟨k + 1, p + q, HPS, Or.inr HKS, by omega, by omega, by go_num, ?_, hbel2⟩
              rw [wordsTo_succ, ints_append, ints_one, ← HP.out]
              rw [List.take_of_length_le (by rw [HPL.out]; omega)] at hown2
              exact hown2
            case measure => simp [intOf]; omega
    · go_wp2
      go_ret2
      rw [wordsRes_2 (by omega)]
      have e1 : k = (xs.length + q - 1) / q := div_up_iff xs.length q k (by omega) (by rw [← HP.out]; omega) (HK.imp id fun h => by rw [HL.out]; exact h)
      rw [Int.toNat_natCast, ← e1]
      exact RetSl.own hown hbel

set_option maxHeartbeats 800000 in
theorem rwords_any (ao : Option Addr) (len cap : Nat) (xs : List Bool) (size : Int) (fill : Bool) (w : World) (hl : xs.length = len) (hb : len ≤ 1048576) (hr : Row w ao (bools xs)) :
    Calls Try.prog 65 #[.slice ao len cap, .int .i64 size, .bool fill] w (RetSl w (ints (wordsRes xs size fill).1, (wordsRes xs size fill).2)) := by
  have HL := Lib.hid hl
  have hle : xs.length ≤ len := by omega
  have hge : len ≤ xs.length := by omega
  clear hl
  go_enter Try.func65, Try.ntmps65
  go_wp2_with fail
  all_goals try (go_ret2; rw [wordsRes_1 (by omega)]; exact RetSl.nil _ _ _ (Ext.refl _))
  obtain ⟨q, rfl⟩ := Int.eq_ofNat_of_zero_le (show 0 ≤ size by omega)
  go_loopw [8, 9, 10, 11] (fun s i _ _ wr => ∃ k p : Nat, Hid (p = k * q) ∧ (k = 0 ∨ Hid ((k - 1) * q < len)) ∧ p ≤ len + 62 ∧ k ≤ p ∧ i = .int .i64 p ∧ wr.ownsRow w.heap.size 3 1 s k (ints (wordsTo xs q fill k)) ∧ Below w.heap.size w wr)
     (fun _ i _ _ _ => len + 62 - (intOf i).toNat)
  case atStart => exact ⟨0, 0, (Nat.zero_mul q).symm, Or.inl rfl, Nat.zero_le _, Nat.zero_le _, rfl, World.ownsRow_nil _ _ _ _, Below.refl _ _⟩
  case round =>
    obtain ⟨k, p, HP, HK, hp, hkp, rfl, hown, hbel⟩ := hrel
    have hsz := hbel.size
    by_cases hlt : p < len
    · have HKS : Hid ((k + 1 - 1) * q < len) := by have := HP.out; show (k + 1 - 1) * q < len; rw [Nat.add_sub_cancel]; omega
      have HPS : Hid (p + q = (k + 1) * q) := by have := HP.out; show p + q = (k + 1) * q; rw [Nat.add_mul]; omega
      have HPL := Lib.hid (length_pad xs p q fill)
      go_wp2
      go_loop [10, 11] (fun v j => ∃ i : Nat, i ≤ q ∧ j = .int .i64 ((p : Int) + i) ∧ v = .int .i64 (num ((pad xs p q fill).take i))) (fun _ j => p + q - (intOf j).toNat)
      case atStart => exact ⟨0, by omega, by go_num, rfl⟩
      case round =>
        obtain ⟨i, hi, rfl, rfl⟩ := hrel
        by_cases hlt2 : i < q
        · obtain ⟨b0, b1⟩ := num_take_bd (pad xs p q fill) i (by omega)
          have hS := num_take (pad xs p q fill) i (by rw [HPL.out]; omega)
          by_cases hin : p + i < len
          · rw [pad_in xs p q fill i (by omega) (by omega)] at hS
            obtain ⟨a, rfl, hc⟩ := (hr.ext hbel).at (bools_at xs (p + i) (by omega))
            cases hv : xs[p + i] <;> rw [hv] at hc hS <;> simp only [Bool.false_eq_true, if_false, if_true, Int.add_zero] at hS <;> have HS := Lib.hid hS <;> clear hS hv
            all_goals
              go_wp2
              go_round
              case rel => exact ⟨i + 1, by omega, by go_num, int_eq HS.out.symm⟩
              case measure => simp [intOf]; omega
          · rw [pad_out xs p q fill i (by omega) (by omega)] at hS
            cases fill <;> simp only [Bool.false_eq_true, if_false, if_true, Int.add_zero] at hS <;> have HS := Lib.hid hS <;> clear hS
            all_goals
              go_wp2
              go_round
              case rel => exact ⟨i + 1, by omega, by go_num, int_eq HS.out.symm⟩
              case measure => simp [intOf]; omega
        · obtain ⟨b0, b1⟩ := num_le62 ((pad xs p q fill).take i) (by rw [List.length_take, HPL.out]; omega)
          go_wp2_with (at_builtin; refine wpList_push rfl _ _ 60 rfl w.heap.size 3 (.int .i64 0) 8 Try.infoInt rfl Try.underlying60 _ rfl k _ hown _ rfl rfl (by omega) (by omega) hbel (by omega) ?_)
          intro s2 w2 hown2 hbel2 _
          clear hown
          go_wp2
          go_roundw
          case rel =>
            refine ⟨k + 1, p + q, HPS, Or.inr HKS, by omega, by omega, by go_num, ?_, hbel2⟩
            rw [wordsTo_succ, ints_append, ints_one, ← HP.out]
            rw [List.take_of_length_le (by rw [HPL.out]; omega)] at hown2
            exact hown2
          case measure => simp [intOf]; omega
    · go_wp2
      go_ret2
      rw [wordsRes_2 (by omega)]
      have e1 : k = (xs.length + q - 1) / q := div_up_iff xs.length q k (by omega) (by rw [← HP.out]; omega) (HK.imp id fun h => by rw [HL.out]; exact h)
      rw [Int.toNat_natCast, ← e1]
      exact RetSl.own hown hbel

def okw (q : Nat) (v : Int) : Bool := decide (0 ≤ v) && decide (v < 2 ^ q)
def fromTo (l : List Int) (q k : Nat) : List Bool := (l.take k).flatMap fun v => lowBits v q
theorem fromTo_succ (l : List Int) (q k : Nat) (h : k < l.length) : fromTo l q (k + 1) = fromTo l q k ++ lowBits l[k] q := by
  unfold fromTo; rw [List.take_succ_eq_append_getElem h, List.flatMap_append]; simp
theorem length_fromTo (l : List Int) (q k : Nat) (h : k ≤ l.length) : (fromTo l q k).length = k * q := by
  induction k with
  | zero => simp [fromTo]
  | succ k ih => rw [fromTo_succ l q k (by omega), List.length_append, ih (by omega), length_lowBits, Nat.add_mul]; omega
def fromRes (l : List Int) (size : Int) : List Bool × Int :=
  if size < 1 ∨ 62 < size then ([], 3) else if 1048576 / size < (l.length : Int) then ([], 4) else if l.all (okw size.toNat) then (fromTo l size.toNat l.length, 0) else ([], 3)
theorem fromRes_1 {l : List Int} {size : Int} (h : size < 1 ∨ 62 < size) : fromRes l size = ([], 3) := by unfold fromRes; rw [if_pos h]
theorem fromRes_2 {l : List Int} {size : Int} (h : ¬ (size < 1 ∨ 62 < size)) (h2 : 1048576 / size < (l.length : Int)) : fromRes l size = ([], 4) := by unfold fromRes; rw [if_neg h, if_pos h2]
theorem fromRes_3 {l : List Int} {size : Int} (h : ¬ (size < 1 ∨ 62 < size)) (h2 : ¬ 1048576 / size < (l.length : Int)) (h3 : l.all (okw size.toNat) = true) : fromRes l size = (fromTo l size.toNat l.length, 0) := by
  unfold fromRes; rw [if_neg h, if_neg h2, if_pos h3]
theorem fromRes_4 {l : List Int} {size : Int} (h : ¬ (size < 1 ∨ 62 < size)) (h2 : ¬ 1048576 / size < (l.length : Int)) (k : Nat) (hk : k < l.length) (h3 : okw size.toNat l[k] = false) : fromRes l size = ([], 3) := by
  unfold fromRes; rw [if_neg h, if_neg h2, if_neg]
  intro h4
  rw [List.all_eq_true] at h4
  rw [h4 _ (List.getElem_mem hk)] at h3
  cases h3
theorem okw_yes {q : Nat} {v : Int} (h : okw q v = true) : 0 ≤ v ∧ v < 2 ^ q := by simpa [okw] using h
theorem okw_no {q : Nat} {v : Int} (h : okw q v = false) : v < 0 ∨ 2 ^ q ≤ v := by
  unfold okw at h; rw [Bool.and_eq_false_iff] at h; simp at h; exact h
theorem mul_le_of_div (n q : Nat) (h : (n : Int) ≤ 1048576 / (q : Int)) (hq : 0 < q) : n * q ≤ 1048576 := by
  have h1 : n ≤ 1048576 / q := by
    have : ((1048576 / q : Nat) : Int) = 1048576 / (q : Int) := by rw [Int.natCast_ediv]; rfl
    omega
  exact (Nat.le_div_iff_mul_le hq).1 h1
theorem div_pow_zero {v : Int} {q : Nat} (h0 : 0 ≤ v) (h : v < 2 ^ q) : v / 2 ^ q = 0 := Int.ediv_eq_zero_of_lt h0 h
theorem div_pow_pos {v : Int} {q : Nat} (h : 2 ^ q ≤ v) : v / 2 ^ q ≠ 0 := by
  have hp : (0 : Int) < 2 ^ q := Int.pow_pos (by decide)
  have := (Int.le_ediv_iff_mul_le hp (a := 1) (b := v)).2 (by omega)
  omega

set_option maxHeartbeats 800000 in
theorem fromWords_any (ao : Option Addr) (len cap : Nat) (l : List Int) (size : Int) (w : World) (hl : l.length = len) (hb : len ≤ 1048576) (hr : Row w ao (ints l)) :
    Calls Try.prog 61 #[.slice ao len cap, .int .i64 size] w (RetSl w (bools (fromRes l size).1, (fromRes l size).2)) := by
  have HL := Lib.hid hl
  have hle : l.length ≤ len := by omega
  have hge : len ≤ l.length := by omega
  clear hl
  by_cases hs : size < 1 ∨ 62 < size
  · go_enter Try.func61, Try.ntmps61
    go_wp2_with fail
    all_goals try (go_ret2; rw [fromRes_1 (by omega)]; exact RetSl.nil _ _ _ (Ext.refl _))
    all_goals (exfalso; omega)
  obtain ⟨q, rfl⟩ := Int.eq_ofNat_of_zero_le (show 0 ≤ size by omega)
  have hq1 : (1 : Int) ≤ q := by omega
  have hq2 : (q : Int) ≤ 62 := by omega
  by_cases hq : 1048576 / (q : Int) < (len : Int)
  · clear hs
    go_enter Try.func61, Try.ntmps61
    go_wp2_with fail
    go_ret2
    rw [fromRes_2 (by omega) (by rw [HL.out]; exact hq)]
    exact RetSl.nil _ _ _ (Ext.refl _)
  have hm := mul_le_of_div len q (by omega) (by omega)
  have hmi : (len : Int) * q ≤ 1048576 := by have : ((len * q : Nat) : Int) = (len : Int) * q := by rw [Int.natCast_mul]
                                             omega
  have hmi0 : 0 ≤ (len : Int) * q := Int.mul_nonneg (by omega) (by omega)
  clear hs
  go_enter Try.func61, Try.ntmps61
  go_wp2_with (at_make; refine wpList_make (ws := w) rfl _ _ 22 rfl w.heap.size 4 (.bool false) 1 Try.infoBool rfl Try.underlying22 _ _ _ _ rfl rfl 0 (len * q) rfl (by rw [Int.natCast_mul]) (by omega) (by omega) (by omega) (Below.refl _ _) (Nat.le_refl _) ?_)
  intro w1 hown1 hb1 _
  go_wp2_with fail
  go_loopw [6, 8, 27] (fun s _ i wr => ∃ k n : Nat, k ≤ len ∧ Hid (n = k * q) ∧ n ≤ 1048576 ∧ i = .int .i64 k ∧ Hid ((l.take k).all (okw q) = true) ∧ wr.ownsRow w.heap.size 4 1 s n (bools (fromTo l q k)) ∧ Below w.heap.size w wr)
     (fun _ _ i _ => len - (intOf i).toNat)
  case atStart => exact ⟨0, 0, Nat.zero_le _, (Nat.zero_mul q).symm, Nat.zero_le _, rfl, rfl, hown1, hb1⟩
  case round =>
    clear hown1 hb1
    obtain ⟨k, n, hk, HN, hn, rfl, HA, hown, hbel⟩ := hrel
    have hsz := hbel.size
    by_cases hlt : k < len
    · obtain ⟨a, rfl, hc⟩ := (hr.ext hbel).at (ints_at l k (by omega))
      have HNS : Hid (n + q = (k + 1) * q) := by have := HN.out; show n + q = (k + 1) * q; rw [Nat.add_mul]; omega
      have hns : n + q ≤ 1048576 := by have := HNS.out; have := Nat.mul_le_mul_right q (show k + 1 ≤ len by omega); omega
      cases hok : okw q l[k]
      · have HO := Lib.hid hok
        rcases okw_no hok with h | h
        all_goals clear hok
        · go_wp2_with fail
          go_ret2
          rw [fromRes_4 (by omega) (by rw [HL.out]; omega) k (by omega) (by rw [Int.toNat_natCast]; exact HO.out)]
          exact RetSl.nil _ _ _ hbel
        · have hz : (l[k] / 2 ^ q != 0) = true := by rw [bne_iff_ne]; exact div_pow_pos h
          have hnn : 0 ≤ l[k] := by have : (0 : Int) < 2 ^ q := Int.pow_pos (by decide)
                                    omega
          clear h
          go_wp2_with fail
          go_ret2
          rw [fromRes_4 (by omega) (by rw [HL.out]; omega) k (by omega) (by rw [Int.toNat_natCast]; exact HO.out)]
          exact RetSl.nil _ _ _ hbel
      · obtain ⟨hnn, h⟩ := okw_yes hok
        have hz : (l[k] / 2 ^ q != 0) = false := by rw [div_pow_zero hnn h]; rfl
        have HA2 : Hid ((l.take (k + 1)).all (okw q) = true) := by
          show (l.take (k + 1)).all (okw q) = true
          rw [List.take_succ_eq_append_getElem (by omega), List.all_append, HA.out]; simp [hok]
        clear h hok
        go_wp2_with (go_at_call 84; refine (appendLow_any w.heap.size _ n (fromTo l q k) _ q _ (by omega) (by omega) hown (by omega)).mono ?_; rintro e w3 ⟨s3, rfl, hown3, hb3⟩)
        go_roundw
        case rel =>
          refine ⟨k + 1, n + q, by omega, HNS, hns, by go_num, HA2, ?_, hbel.trans hb3⟩
          rw [fromTo_succ l q k (by omega)]
          exact hown3
        case measure => simp [intOf]; omega
    · obtain rfl : k = len := by omega
      go_wp2
      go_ret2
      rw [fromRes_3 (by omega) (by rw [HL.out]; omega) (by have := HA.out; rw [List.take_of_length_le (by omega)] at this; rw [Int.toNat_natCast]; exact this), Int.toNat_natCast, HL.out]
      exact RetSl.own hown hbel

set_option maxHeartbeats 800000 in
theorem rfromWords_any (ao : Option Addr) (len cap : Nat) (l : List Int) (size : Int) (w : World) (hl : l.length = len) (hb : len ≤ 1048576) (hr : Row w ao (ints l)) :
    Calls Try.prog 63 #[.slice ao len cap, .int .i64 size] w (RetSl w (bools (fromRes l size).1, (fromRes l size).2)) := by
  have HL := Lib.hid hl
  have hle : l.length ≤ len := by omega
  have hge : len ≤ l.length := by omega
  clear hl
  by_cases hs : size < 1 ∨ 62 < size
  · go_enter Try.func63, Try.ntmps63
    go_wp2_with fail
    all_goals try (go_ret2; rw [fromRes_1 (by omega)]; exact RetSl.nil _ _ _ (Ext.refl _))
    all_goals (exfalso; omega)
  obtain ⟨q, rfl⟩ := Int.eq_ofNat_of_zero_le (show 0 ≤ size by omega)
  have hq1 : (1 : Int) ≤ q := by omega
  have hq2 : (q : Int) ≤ 62 := by omega
  by_cases hq : 1048576 / (q : Int) < (len : Int)
  · clear hs
    go_enter Try.func63, Try.ntmps63
    go_wp2_with fail
    go_ret2
    rw [fromRes_2 (by omega) (by rw [HL.out]; exact hq)]
    exact RetSl.nil _ _ _ (Ext.refl _)
  have hm := mul_le_of_div len q (by omega) (by omega)
  have hpw := pow_le62 q (by omega)
  have hpw0 : (0 : Int) < 2 ^ q := Int.pow_pos (by decide)
  clear hs
  go_enter Try.func63, Try.ntmps63
  go_wp2_with fail
  go_loopw [6, 7, 8] (fun s i _ wr => ∃ k n : Nat, k ≤ len ∧ Hid (n = k * q) ∧ n ≤ 1048576 ∧ i = .int .i64 k ∧ Hid ((l.take k).all (okw q) = true) ∧ wr.ownsRow w.heap.size 4 1 s n (bools (fromTo l q k)) ∧ Below w.heap.size w wr)
     (fun _ i _ _ => len - (intOf i).toNat)
  case atStart => exact ⟨0, 0, Nat.zero_le _, (Nat.zero_mul q).symm, Nat.zero_le _, rfl, rfl, World.ownsRow_nil _ _ _ _, Below.refl _ _⟩
  case round =>
    obtain ⟨k, n, hk, HN, hn, rfl, HA, hown, hbel⟩ := hrel
    have hsz := hbel.size
    by_cases hlt : k < len
    · obtain ⟨a, rfl, hc⟩ := (hr.ext hbel).at (ints_at l k (by omega))
      have HNS : Hid (n + q = (k + 1) * q) := by have := HN.out; show n + q = (k + 1) * q; rw [Nat.add_mul]; omega
      have hns : n + q ≤ 1048576 := by have := HNS.out; have := Nat.mul_le_mul_right q (show k + 1 ≤ len by omega); omega
      cases hok : okw q l[k]
      · have HO := Lib.hid hok
        rcases okw_no hok with h | h
        all_goals clear hok
        · go_wp2_with fail
          go_ret2
          rw [fromRes_4 (by omega) (by rw [HL.out]; omega) k (by omega) (by rw [Int.toNat_natCast]; exact HO.out)]
          exact RetSl.nil _ _ _ hbel
        · have hnn : 0 ≤ l[k] := by omega
          go_wp2_with fail
          go_ret2
          rw [fromRes_4 (by omega) (by rw [HL.out]; omega) k (by omega) (by rw [Int.toNat_natCast]; exact HO.out)]
          exact RetSl.nil _ _ _ hbel
      · obtain ⟨hnn, h⟩ := okw_yes hok
        have HA2 : Hid ((l.take (k + 1)).all (okw q) = true) := by
          show (l.take (k + 1)).all (okw q) = true
          rw [List.take_succ_eq_append_getElem (by omega), List.all_append, HA.out]; simp [hok]
        clear hok
        go_wp2_with fail
        obtain ⟨wo, rfl⟩ : ∃ wo : World, wo = wr := ⟨_, rfl⟩
        go_loopw [6, 8] (fun s i wr => ∃ j : Nat, j ≤ q ∧ i = .int .i64 ((q : Int) - 1 - j) ∧ wr.ownsRow w.heap.size 4 1 s (n + j) (bools (fromTo l q k ++ lowFrom l[k] q j)) ∧ Below w.heap.size w wr)
           (fun _ i _ => (intOf i + 1).toNat)
        case atStart => exact ⟨0, Nat.zero_le _, by go_num, by simpa [lowFrom] using hown, hbel⟩
        case round =>
          clear hown hbel hc
          obtain ⟨j, hj, rfl, hown, hbel⟩ := hrel
          have hsz2 := hbel.size
          by_cases hlt2 : j < q
          · obtain ⟨a', ha', hc⟩ := (hr.ext hbel).at (ints_at l k (by omega))
            cases ha'
            go_wp2_with (at_builtin; refine wpList_push rfl _ _ 22 rfl w.heap.size 4 (.bool false) 1 Try.infoBool rfl Try.underlying22 _ rfl (n + j) _ hown _ rfl rfl (by omega) (by omega) hbel (by omega) ?_)
            intro s2 w2 hown2 hbel2 _
            clear hown hc
            go_wp2
            go_roundw
            case rel =>
              refine ⟨j + 1, by omega, by go_num, ?_, hbel2⟩
              rw [lowFrom_succ, ← List.append_assoc, bools_append, bools_one, ← bit_eq]
              exact hown2
            case measure => simp [intOf]; omega
          · obtain rfl : j = q := by omega
            go_wp2_with fail
            go_roundw
            case rel =>
              refine ⟨k + 1, n + j, by omega, HNS, hns, by go_num, HA2, ?_, hbel⟩
              rw [fromTo_succ l j k (by omega)]
              exact hown
            case measure => simp [intOf]; omega
    · obtain rfl : k = len := by omega
      go_wp2_with fail
      go_ret2
      rw [fromRes_3 (by omega) (by rw [HL.out]; omega) (by have := HA.out; rw [List.take_of_length_le (by omega)] at this; rw [Int.toNat_natCast]; exact this), Int.toNat_natCast, HL.out]
      exact RetSl.own hown hbel

end Go.Proofs.Ytjkpdhcnklgfbaa
