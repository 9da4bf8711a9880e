/-
  Plain laws of bit strings: conversions are inverted; the distance is a metric; reading returns what was appended.
  No program; conditions stand in each lemma.
-/
import Derived.Test.YthebfpolijajgaaBitsG
namespace Go.Proofs.Ythebfpolijajgaa
open Go.RowKit Go.Bs

/-! ### conversions -/

theorem fbits_bytesOf (xs : List Bool) (nb : Nat) (h : xs.length ≤ 8 * nb) : fbits (bytesOf xs nb) xs.length = xs := by
  apply List.ext_getElem
  · rw [length_fbits]
  · intro i h1 h2
    have hi : i / 8 < nb := by omega
    have hb := num8_bd (pad xs (i / 8 * 8) 8 false) (length_pad _ _ _ _)
    simp only [fbits, List.getElem_map, List.getElem_range]
    unfold pbit
    rw [List.getD, List.getElem?_eq_getElem (by rw [length_bytesOf]; exact hi), Option.getD_some, bytesOf_at _ _ _ hi, toNat_byte _ hb.1 hb.2, num_pad8]
    obtain ⟨j, hj⟩ : ∃ j, j = i / 8 := ⟨_, rfl⟩
    obtain ⟨r, hr⟩ : ∃ r, r = i % 8 := ⟨_, rfl⟩
    rw [← hj, ← hr]
    have hg : xs.getD (j * 8 + r) false = xs[i] := by
      rw [show j * 8 + r = i by omega, List.getD, List.getElem?_eq_getElem h2]; rfl
    rw [← hg]
    have c0 := b2_bd (xs.getD (j * 8) false)
    have c1 := b2_bd (xs.getD (j * 8 + 1) false)
    have c2 := b2_bd (xs.getD (j * 8 + 2) false)
    have c3 := b2_bd (xs.getD (j * 8 + 3) false)
    have c4 := b2_bd (xs.getD (j * 8 + 4) false)
    have c5 := b2_bd (xs.getD (j * 8 + 5) false)
    have c6 := b2_bd (xs.getD (j * 8 + 6) false)
    have c7 := b2_bd (xs.getD (j * 8 + 7) false)
    have key : ∀ (b : Bool) (m : Int), m = b2 b → (m == 1) = b := by intro b m hm; subst hm; cases b <;> rfl
    rcases (show r = 0 ∨ r = 1 ∨ r = 2 ∨ r = 3 ∨ r = 4 ∨ r = 5 ∨ r = 6 ∨ r = 7 by omega) with rfl | rfl | rfl | rfl | rfl | rfl | rfl | rfl
    all_goals
      apply key
      simp only [Nat.sub_zero, Nat.reduceSub, Int.reducePow, Nat.add_zero]
      omega

theorem fbRes_back (xs : List Bool) (h : xs.length ≤ 2000) : fbRes (bytesOf xs ((xs.length + 8 - 1) / 8)) xs.length = (xs, 0) := by
  rw [fbRes_4 (by omega) (by omega) (by rw [length_bytesOf]; omega), Int.toNat_natCast, fbits_bytesOf xs _ (by omega)]

theorem parseRes_back (xs : List Bool) (h : xs.length ≤ 2000) : parseRes (fmtBits xs) = (xs, 0) := by
  rw [parseRes_2 (by rw [length_fmtBits]; omega)]
  · congr 1
    unfold pbits fmtBits
    rw [List.map_map]
    conv => rhs; rw [← List.map_id xs]
    exact List.map_congr_left fun b _ => by cases b <;> rfl
  · rw [List.all_eq_true]
    intro c hc
    obtain ⟨b, _, rfl⟩ := List.mem_map.1 hc
    cases b <;> rfl

/-! ### words -/

theorem pad_long (xs : List Bool) (p q R : Nat) (fill : Bool) (h : p + q ≤ xs.length + R) : pad xs p q fill = ((xs ++ List.replicate R fill).drop p).take q := by
  apply List.ext_getElem
  · rw [length_pad]; simp; omega
  · intro j h1 h2
    rw [length_pad] at h1
    rw [List.getElem_take, List.getElem_drop]
    by_cases hin : p + j < xs.length
    · rw [pad_in xs p q fill j h1 hin, List.getElem_append_left hin]
    · rw [pad_out xs p q fill j h1 (by omega), List.getElem_append_right (by omega)]; simp

theorem num_lowFrom (v : Int) (n k : Nat) (h : k ≤ n) : num (lowFrom v n k) = (v / 2 ^ (n - k)) % 2 ^ k := by
  induction k with
  | zero => simp [lowFrom, num]
  | succ k ih =>
    rw [lowFrom_succ, num_snoc, ih (by omega)]
    have e1 : n - k = (n - (k + 1)) + 1 := by omega
    have e2 : n - 1 - k = n - (k + 1) := by omega
    rw [e1, e2, Int.pow_succ, Int.pow_succ]
    unfold bitOf
    generalize n - (k + 1) = m
    have hp : (0 : Int) < 2 ^ m := Int.pow_pos (by decide)
    rw [← Int.ediv_ediv_of_nonneg (show (0 : Int) ≤ 2 ^ m by omega)]
    generalize v / 2 ^ m = u
    have hk : (0 : Int) < 2 ^ k := Int.pow_pos (by decide)
    have h1 : u % (2 ^ k * 2) = 2 * (u / 2 % 2 ^ k) + u % 2 := by
      have h2 := Int.emod_add_mul_ediv (u / 2) (2 ^ k)
      have h3 := Int.emod_nonneg (u / 2) (show (2 : Int) ^ k ≠ 0 by omega)
      have h4 := Int.emod_lt_of_pos (u / 2) hk
      have e : u = (2 * (u / 2 % 2 ^ k) + u % 2) + (2 ^ k * 2) * (u / 2 / 2 ^ k) := by
        have : (2 : Int) ^ k * 2 * (u / 2 / 2 ^ k) = 2 * (2 ^ k * (u / 2 / 2 ^ k)) := by rw [Int.mul_comm (2 ^ k) 2, Int.mul_assoc]
        omega
      conv => lhs; rw [e]
      rw [Int.add_mul_emod_self_left]
      exact Int.emod_eq_of_lt (by omega) (by omega)
    rw [h1]
    by_cases hb : u % 2 = 1
    · rw [if_pos (by simp [hb])]; omega
    · rw [if_neg (by simpa using hb)]; omega

theorem num_lowBits (v : Int) (n : Nat) : num (lowBits v n) = v % 2 ^ n := by
  unfold lowBits; rw [num_lowFrom v n n (Nat.le_refl _), Nat.sub_self]; simp

theorem num_inj : ∀ (l m : List Bool), l.length = m.length → num l = num m → l = m := by
  intro l
  induction l using snoc_ind with
  | h0 => intro m hm _; exact (List.eq_nil_of_length_eq_zero (by simpa using hm.symm)).symm
  | h1 l a ih =>
    intro m hm hn
    have hne : m ≠ [] := by intro e; subst e; simp at hm
    obtain ⟨m', b, rfl⟩ : ∃ m' b, m = m' ++ [b] := ⟨m.dropLast, m.getLast hne, (List.dropLast_concat_getLast hne).symm⟩
    rw [num_snoc, num_snoc] at hn
    have hl : l.length = m'.length := by simpa using hm
    cases a <;> cases b <;> simp at hn
    · rw [ih m' hl (by omega)]
    · omega
    · omega
    · rw [ih m' hl (by omega)]

theorem lowBits_num (l : List Bool) : lowBits (num l) l.length = l := by
  apply num_inj
  · rw [length_lowBits]
  · rw [num_lowBits]
    have := num_bd l
    exact Int.emod_eq_of_lt this.1 this.2

theorem from_words (xs : List Bool) (q R : Nat) (fill : Bool) (n : Nat) : ∀ k, k ≤ n → k * q ≤ xs.length + R → fromTo (wordsTo xs q fill n) q k = (xs ++ List.replicate R fill).take (k * q) := by
  intro k
  induction k with
  | zero => intro _ _; simp [fromTo]
  | succ k ih =>
    intro hk hR
    have hR' : k * q + q ≤ xs.length + R := by rw [Nat.add_mul] at hR; omega
    have hlen : (wordsTo xs q fill n).length = n := by simp [wordsTo]
    rw [fromTo_succ _ q k (by omega), ih (by omega) (by omega)]
    have e1 : (wordsTo xs q fill n)[k]'(by omega) = num (pad xs (k * q) q fill) := by simp [wordsTo]
    have e2 : lowBits (num (pad xs (k * q) q fill)) q = pad xs (k * q) q fill := by
      have := lowBits_num (pad xs (k * q) q fill)
      rw [length_pad] at this
      exact this
    rw [e1, e2, pad_long xs (k * q) q R fill hR', Nat.add_mul, Nat.one_mul, List.take_add]

theorem words_ok (xs : List Bool) (q : Nat) (fill : Bool) (n : Nat) : (wordsTo xs q fill n).all (okw q) = true := by
  rw [List.all_eq_true]
  intro v hv
  obtain ⟨j, _, rfl⟩ := List.mem_map.1 hv
  have := num_bd (pad xs (j * q) q fill)
  rw [length_pad] at this
  simp [okw, this.1, this.2]

/-- The words of bits, back: the bits, filled up to a whole number of words. -/
theorem words_back (xs : List Bool) (q : Nat) (fill : Bool) (h : xs.length ≤ 2000) (h1 : 1 ≤ q) (h2 : q ≤ 62) :
    ∃ R, R < q ∧ fromRes (wordsRes xs q fill).1 q = (xs ++ List.replicate R fill, 0) ∧ (wordsRes xs q fill).2 = 0 ∧ (wordsRes xs q fill).1.length ≤ 2062 := by
  rw [wordsRes_2 (by omega), Int.toNat_natCast]
  obtain ⟨n, hn⟩ : ∃ n, n = (xs.length + q - 1) / q := ⟨_, rfl⟩
  rw [← hn]
  simp only
  have hlen : (wordsTo xs q fill n).length = n := by simp [wordsTo]
  have hm : n * q ≤ xs.length + q - 1 := by rw [hn]; exact Nat.div_mul_le_self _ _
  have hm2 : xs.length ≤ n * q := by
    have h5 := Nat.div_add_mod (xs.length + q - 1) q
    have h6 := Nat.mod_lt (xs.length + q - 1) (show 0 < q by omega)
    rw [← hn] at h5
    have h7 : q * n = n * q := Nat.mul_comm _ _
    omega
  have hnn : n ≤ n * q := Nat.le_mul_of_pos_right n (by omega)
  have hd : (n : Int) ≤ 1048576 / (q : Int) := by
    have : n ≤ 1048576 / q := (Nat.le_div_iff_mul_le (by omega)).2 (by omega)
    have h3 : ((1048576 / q : Nat) : Int) = 1048576 / (q : Int) := by rw [Int.natCast_ediv]; rfl
    omega
  refine ⟨n * q - xs.length, by omega, ?_, trivial, by rw [hlen]; omega⟩
  rw [fromRes_3 (by omega) (by rw [hlen]; omega) (by rw [Int.toNat_natCast]; exact words_ok xs q fill n), Int.toNat_natCast, hlen]
  rw [from_words xs q (n * q - xs.length) fill n n (Nat.le_refl _) (by omega), List.take_of_length_le (by simp; omega)]

/-! ### reading -/

theorem i64_and_mask (v : Int) (n : Nat) (h : n ≤ 62) : bits .and .i64 v (2 ^ n - 1) = v % 2 ^ n := by
  have hp := pow_le62 n h
  have hp0 : (0 : Int) < 2 ^ n := Int.pow_pos (by decide)
  have e0 : ((2 ^ n : Nat) : Int) = (2 : Int) ^ n := by rw [Int.natCast_pow]; rfl
  have e1 : (2 : Int) ^ n - 1 = ((2 ^ n - 1 : Nat) : Int) := by
    have : 0 < 2 ^ n := Nat.pow_pos (by decide)
    omega
  have hd : (2 : Nat) ^ n ∣ 2 ^ 64 := Nat.pow_dvd_pow 2 (by omega)
  show IntKind.i64.wrap ((BitVec.ofInt 64 v &&& BitVec.ofInt 64 (2 ^ n - 1)).toNat : Int) = _
  rw [BitVec.toNat_and, e1, ofInt_u64 _ (by omega), Nat.and_two_pow_sub_one_eq_mod, BitVec.toNat_ofInt]
  have hlt := Nat.mod_lt ((v % ((2 ^ 64 : Nat) : Int)).toNat) (show 0 < 2 ^ n from Nat.pow_pos (by decide))
  rw [wrap_i64_nat _ (by omega), Int.natCast_emod, e0]
  have h3 : 0 ≤ v % ((2 ^ 64 : Nat) : Int) := Int.emod_nonneg _ (by decide)
  rw [Int.toNat_of_nonneg h3]
  apply Int.emod_emod_of_dvd
  obtain ⟨c, hc⟩ := hd
  exact ⟨c, by rw [hc, Int.natCast_mul, e0]⟩

/-! ### the metric -/

theorem cnt_nil : cnt [] = 0 := rfl
theorem cnt_cons (b : Bool) (l : List Bool) : cnt (b :: l) = b2 b + cnt l := by cases b <;> simp [cnt, b2] <;> omega

theorem dist_symm : ∀ (xs ys : List Bool), cnt (diffs xs ys) = cnt (diffs ys xs)
  | [], ys => by cases ys <;> rfl
  | x :: xs, [] => rfl
  | x :: xs, y :: ys => by
    have := dist_symm xs ys
    simp only [diffs, List.zipWith_cons_cons, cnt_cons] at *
    cases x <;> cases y <;> simp [b2] <;> exact this

theorem dist_tri : ∀ (xs ys zs : List Bool), xs.length = ys.length → ys.length = zs.length → cnt (diffs xs zs) ≤ cnt (diffs xs ys) + cnt (diffs ys zs)
  | [], ys, zs, _, _ => by show cnt [] ≤ _; rw [cnt_nil]; exact Int.add_nonneg (cnt_bd _).1 (cnt_bd _).1
  | x :: xs, [], _, h, _ => by simp at h
  | x :: xs, y :: ys, [], _, h => by simp at h
  | x :: xs, y :: ys, z :: zs, h1, h2 => by
    have := dist_tri xs ys zs (by simpa using h1) (by simpa using h2)
    simp only [diffs, List.zipWith_cons_cons, cnt_cons] at *
    cases x <;> cases y <;> cases z <;> simp [b2] <;> omega

theorem dist_zero : ∀ (xs ys : List Bool), xs.length = ys.length → (cnt (diffs xs ys) == 0) = (xs == ys)
  | [], [], _ => rfl
  | [], y :: ys, h => by simp at h
  | x :: xs, [], h => by simp at h
  | x :: xs, y :: ys, h => by
    have := dist_zero xs ys (by simpa using h)
    have hb := (cnt_bd (diffs xs ys)).1
    simp only [diffs, List.zipWith_cons_cons, cnt_cons] at *
    cases x <;> cases y
    · simp [b2, this]
    · simp [b2]; omega
    · simp [b2]; omega
    · simp [b2, this]

theorem dist_zeros : ∀ (xs : List Bool), cnt (diffs xs (List.replicate xs.length false)) = cnt xs
  | [] => rfl
  | x :: xs => by
    have := dist_zeros xs
    simp only [diffs, List.length_cons, List.replicate_succ, List.zipWith_cons_cons, cnt_cons] at *
    cases x <;> simp [b2] <;> exact this

theorem dist_flip : ∀ (xs ys : List Bool) (i : Nat) (h : i < ys.length), cnt (diffs xs (ys.set i (!ys[i]))) ≤ cnt (diffs xs ys) + 1
  | [], ys, i, h => by simp [diffs, cnt_nil]
  | x :: xs, [], i, h => by simp at h
  | x :: xs, y :: ys, 0, h => by
    simp only [diffs, List.set_cons_zero, List.zipWith_cons_cons, cnt_cons, List.getElem_cons_zero]
    cases x <;> cases y <;> simp [b2] <;> omega
  | x :: xs, y :: ys, i + 1, h => by
    have := dist_flip xs ys i (by simpa using h)
    simp only [diffs, List.set_cons_succ, List.zipWith_cons_cons, cnt_cons, List.getElem_cons_succ] at *
    omega

theorem dist_self (xs : List Bool) : cnt (diffs xs xs) = 0 := by
  have := dist_zero xs xs rfl
  simpa using this

end Go.Proofs.Ythebfpolijajgaa
