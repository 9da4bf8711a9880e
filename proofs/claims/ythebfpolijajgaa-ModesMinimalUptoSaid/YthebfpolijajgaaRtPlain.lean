/-
  Plain: reading restores what was written: groups, data, segments.
  No program; conditions stand in each lemma.
-/
import Derived.Test.YthebfpolijajgaaDecPlain
import Derived.Test.YthebfpolijajgaaBitsLaws
import Derived.Test.YthebfpolijajgaaModeI
namespace Go.Proofs.Ythebfpolijajgaa
open Go.Bs Go.Mode

theorem numN_low (v : Int) (n : Nat) (h0 : 0 ≤ v) (h : v < 2 ^ n) : (numN (lowBits v n) : Int) = v := by
  rw [← numN_num, num_lowBits, Int.emod_eq_of_lt h0 h]

/-- A byte that fits is restored from its value. -/
theorem chr_value_all : ∀ n : Fin 256, 0 ≤ placeI (UInt8.ofNat n.val) → alnum.getD (placeI (UInt8.ofNat n.val)).toNat 0 = UInt8.ofNat n.val := by decide +kernel
theorem fits_place (m : Int) (c : UInt8) (hm : m = 1 ∨ m = 2) (h : fitsB m c = true) : 0 ≤ placeI c := by
  rcases hm with rfl | rfl
  · have hd : ∀ n : Fin 256, fitsB 1 (UInt8.ofNat n.val) = true → 0 ≤ placeI (UInt8.ofNat n.val) := by decide +kernel
    have := hd ⟨c.toNat, c.toNat_lt⟩
    simp only [UInt8.ofNat_toNat] at this
    exact this h
  · simpa [fitsB] using h
theorem fits_lt (m : Int) (c : UInt8) (hm : okMode m = true) (h : fitsB m c = true) : 0 ≤ valueI m c ∧ valueI m c < baseI m := by
  unfold okMode at hm
  simp only [Bool.or_eq_true, beq_iff_eq] at hm
  rcases hm with (rfl | rfl) | rfl
  · have hd : ∀ n : Fin 256, fitsB 1 (UInt8.ofNat n.val) = true → 0 ≤ placeI (UInt8.ofNat n.val) ∧ placeI (UInt8.ofNat n.val) < 10 := by decide +kernel
    have := hd ⟨c.toNat, c.toNat_lt⟩
    simp only [UInt8.ofNat_toNat] at this
    exact this h
  · have h1 := fits_place 2 c (Or.inr rfl) h
    have h2 := placeI_bd c
    show 0 ≤ placeI c ∧ placeI c < 45
    omega
  · have := c.toNat_lt
    show 0 ≤ (c.toNat : Int) ∧ (c.toNat : Int) < 256
    omega
theorem chr_value (m : Int) (c : UInt8) (hm : okMode m = true) (h : fitsB m c = true) : chrOf m (valueI m c).toNat = c := by
  by_cases h4 : m = 4
  · subst h4
    show UInt8.ofNat ((c.toNat : Int).toNat) = c
    simp
  · have h12 : m = 1 ∨ m = 2 := by
      unfold okMode at hm
      simp only [Bool.or_eq_true, beq_iff_eq] at hm
      rcases hm with (h | h) | h
      · exact Or.inl h
      · exact Or.inr h
      · exact absurd h h4
    have h0 := fits_place m c h12 h
    have := chr_value_all ⟨c.toNat, c.toNat_lt⟩
    simp only [UInt8.ofNat_toNat] at this
    unfold chrOf valueI
    rw [if_neg h4, if_neg h4]
    exact this h0

/-- The number of a group, as a natural number. -/
def gN (m : Int) (g : List UInt8) : Nat := g.foldl (fun v c => v * baseN m + (valueI m c).toNat) 0
theorem gN_snoc (m : Int) (g : List UInt8) (c : UInt8) : gN m (g ++ [c]) = gN m g * baseN m + (valueI m c).toNat := by unfold gN; rw [List.foldl_append]; rfl
theorem gval_gN (m : Int) (hm : okMode m = true) (g : List UInt8) : (∀ c ∈ g, fitsB m c = true) → gval m g = (gN m g : Int) := by
  induction g using snoc_ind with
  | h0 => intro _; rfl
  | h1 g c ih =>
    intro h
    have hc := fits_lt m c hm (h c (by simp))
    rw [gval_snoc, gN_snoc, ih (fun x hx => h x (by simp [hx])), baseN_eq]
    have : ((valueI m c).toNat : Int) = valueI m c := by omega
    rw [Int.natCast_add, Int.natCast_mul, this]
theorem gN_lt (m : Int) (hm : okMode m = true) (g : List UInt8) : (∀ c ∈ g, fitsB m c = true) → gN m g < baseN m ^ g.length := by
  induction g using snoc_ind with
  | h0 => intro _; simp [gN]
  | h1 g c ih =>
    intro h
    have hc := fits_lt m c hm (h c (by simp))
    have h1 := ih (fun x hx => h x (by simp [hx]))
    rw [gN_snoc, List.length_append, List.length_singleton, Nat.pow_succ]
    have hb : (valueI m c).toNat < baseN m := by have := baseN_eq m; omega
    have : (gN m g + 1) * baseN m ≤ baseN m ^ g.length * baseN m := Nat.mul_le_mul_right _ h1
    rw [Nat.add_mul] at this
    omega
theorem ung_gN (m : Int) (hm : okMode m = true) (g : List UInt8) : (∀ c ∈ g, fitsB m c = true) → ungV m (gN m g) g.length = g := by
  induction g using snoc_ind with
  | h0 => intro _; rfl
  | h1 g c ih =>
    intro h
    have hc := fits_lt m c hm (h c (by simp))
    have hb : (valueI m c).toNat < baseN m := by have := baseN_eq m; omega
    have hb0 : 0 < baseN m := (baseN_pos m).1
    have h1 := ih (fun x hx => h x (by simp [hx]))
    have hdiv : gN m (g ++ [c]) / baseN m = gN m g := by rw [gN_snoc, Nat.mul_comm, Nat.mul_add_div hb0, Nat.div_eq_of_lt hb]; omega
    have hmod : gN m (g ++ [c]) % baseN m = (valueI m c).toNat := by rw [gN_snoc, Nat.mul_comm, Nat.mul_add_mod, Nat.mod_eq_of_lt hb]
    apply List.ext_getElem
    · rw [length_ungV]
    · intro k h1' h2'
      rw [length_ungV] at h1'
      simp only [ungV, List.getElem_map, List.getElem_range, List.length_append, List.length_singleton, Nat.add_sub_cancel]
      by_cases hk : k < g.length
      · rw [List.getElem_append_left hk]
        have e : g.length - k = 1 + (g.length - 1 - k) := by omega
        rw [e, Nat.pow_add, Nat.pow_one, ← Nat.div_div_eq_div_mul, hdiv]
        have : (ungV m (gN m g) g.length)[k]? = g[k]? := by rw [h1]
        rw [List.getElem?_eq_getElem (by rw [length_ungV]; exact hk), List.getElem?_eq_getElem hk] at this
        have h3 := Option.some.inj this
        simp only [ungV, List.getElem_map, List.getElem_range] at h3
        exact h3
      · have hkl : k = g.length := by simp at h1'; omega
        subst hkl
        rw [Nat.sub_self, Nat.pow_zero, Nat.div_one, hmod, chr_value m c hm (h c (by simp)), List.getElem_append_right (Nat.le_refl _)]
        simp

theorem base_pow (m : Int) (hm : okMode m = true) (k : Nat) (hk : k ≤ unitN m) : baseN m ^ k ≤ 2 ^ dsize m k := by
  unfold okMode at hm
  simp only [Bool.or_eq_true, beq_iff_eq] at hm
  rcases hm with (rfl | rfl) | rfl
  · have h3 : k ≤ 3 := hk
    match k, h3 with
    | 0, _ => decide
    | 1, _ => decide
    | 2, _ => decide
    | 3, _ => decide
  · have h3 : k ≤ 2 := hk
    match k, h3 with
    | 0, _ => decide
    | 1, _ => decide
    | 2, _ => decide
  · have h3 : k ≤ 1 := hk
    match k, h3 with
    | 0, _ => decide
    | 1, _ => decide

/-- Data are restored. -/
theorem dec_enc (m : Int) (hm : okMode m = true) : ∀ (n : Nat) (d : List UInt8) (rest : List Bool), d.length = n → (∀ c ∈ d, fitsB m c = true) → decD m n (encD m d ++ rest) = some d := by
  intro n
  induction n using Nat.strongRecOn with
  | ind n ih =>
    intro d rest hd hf
    by_cases h0 : n = 0
    · subst h0
      rw [List.eq_nil_of_length_eq_zero hd, decD_zero]
    · have hu := unit_pos m
      have hne : d ≠ [] := by intro e; subst e; simp at hd; omega
      obtain ⟨K, hK⟩ : ∃ K, K = min n (unitN m) := ⟨_, rfl⟩
      have hst := encD_step m d hne
      rw [hd, ← hK] at hst
      have htake : d.take (unitN m) = d.take K := by
        rcases Nat.le_total n (unitN m) with h | h
        · rw [List.take_of_length_le (by omega), List.take_of_length_le (by omega)]
        · rw [show K = unitN m by omega]
      have hdrop : d.drop (unitN m) = d.drop K := by
        rcases Nat.le_total n (unitN m) with h | h
        · rw [List.drop_of_length_le (by omega), List.drop_of_length_le (by omega)]
        · rw [show K = unitN m by omega]
      rw [htake, hdrop] at hst
      have hgl : (d.take K).length = K := by rw [List.length_take]; omega
      have hgf : ∀ c ∈ d.take K, fitsB m c = true := fun c hc => hf c (List.mem_of_mem_take hc)
      have hgv := gval_gN m hm (d.take K) hgf
      have hglt := gN_lt m hm (d.take K) hgf
      have hgu := ung_gN m hm (d.take K) hgf
      rw [hgl] at hglt hgu
      have hbp := base_pow m hm K (by omega)
      have hV : numN (lowBits (gval m (d.take K)) (dsize m K)) = gN m (d.take K) := by
        have h1 := numN_low (gval m (d.take K)) (dsize m K) (by rw [hgv]; omega) (by
          rw [hgv]
          have : ((gN m (d.take K) : Nat) : Int) < ((2 ^ dsize m K : Nat) : Int) := by omega
          rwa [Int.natCast_pow] at this)
        rw [hgv] at h1
        rw [hgv]
        omega
      have hT : (encD m d ++ rest).take (dsize m K) = lowBits (gval m (d.take K)) (dsize m K) := by
        rw [hst, List.append_assoc, List.take_append_of_le_length (by rw [length_lowBits]; exact Nat.le_refl _), List.take_of_length_le (by rw [length_lowBits]; exact Nat.le_refl _)]
      have hD : (encD m d ++ rest).drop (dsize m K) = encD m (d.drop K) ++ rest := by
        rw [hst, List.append_assoc, List.drop_append_of_le_length (by rw [length_lowBits]; exact Nat.le_refl _), List.drop_of_length_le (by rw [length_lowBits]; exact Nat.le_refl _)]
        rfl
      rw [decD_ok m n _ (by omega) (by
        rw [← hK, hT, hV]
        unfold ungOk
        rw [Nat.div_eq_of_lt hglt]
        rfl), ← hK, hT, hV, hD, ih (n - K) (by omega) (d.drop K) rest (by simp; omega) (fun c hc => hf c (List.mem_of_mem_drop hc)), hgu]
      simp

theorem read_enc (m : Int) (k : Nat) (hm : okMode m = true) (d : List UInt8) (rest : List Bool) (hl : d.length < 2 ^ cntB m k) (hf : ∀ c ∈ d, fitsB m c = true) :
    readRes m k (lowBits (d.length : Int) (cntB m k) ++ (encD m d ++ rest)) = (d, 0, rest) := by
  have hll := length_lowBits (d.length : Int) (cntB m k)
  have hel := length_encD m hm d.length d rfl
  have hT : (lowBits (d.length : Int) (cntB m k) ++ (encD m d ++ rest)).take (cntB m k) = lowBits (d.length : Int) (cntB m k) := by
    rw [List.take_append_of_le_length (by omega), List.take_of_length_le (by omega)]
  have hD : (lowBits (d.length : Int) (cntB m k) ++ (encD m d ++ rest)).drop (cntB m k) = encD m d ++ rest := by
    rw [List.drop_append_of_le_length (by omega), List.drop_of_length_le (by omega)]; rfl
  have hN : numN (lowBits (d.length : Int) (cntB m k)) = d.length := by
    have h1 := numN_low (d.length : Int) (cntB m k) (by omega) (by
      have : ((d.length : Nat) : Int) < ((2 ^ cntB m k : Nat) : Int) := by omega
      rwa [Int.natCast_pow] at this)
    omega
  unfold readRes
  rw [if_neg (by rw [List.length_append, hll]; omega), hT, hN, hD, if_neg (by rw [List.length_append, hel]; omega), dec_enc m hm d.length d rest rfl hf]
  simp only
  rw [List.drop_append_of_le_length (by omega), List.drop_of_length_le (by omega)]
  rfl

theorem mode_num (m : Int) (hm : okMode m = true) : num (lowBits m 4) = m := by
  unfold okMode at hm
  simp only [Bool.or_eq_true, beq_iff_eq] at hm
  rcases hm with (rfl | rfl) | rfl <;> rw [num_lowBits] <;> decide

/-- What follows the segments: nothing but zeros, or four zeros. -/
def EndOk (r : List Bool) : Prop := (r.length < 4 ∧ num r = 0) ∨ (4 ≤ r.length ∧ num (r.take 4) = 0)

theorem decL_enc (k : Nat) (r : List Bool) (hr : EndOk r) : ∀ (l l0 : List (Int × List UInt8)), (∀ p ∈ l, okMode p.1 = true ∧ p.2.length < 2 ^ cntB p.1 k ∧ ∀ c ∈ p.2, fitsB p.1 c = true) → l0.length + l.length ≤ 4096 →
    decL k l0 (l.flatMap (encS k) ++ r) = (l0 ++ l, 0) := by
  intro l
  induction l with
  | nil =>
    intro l0 _ _
    rw [List.flatMap_nil, List.nil_append, List.append_nil]
    rcases hr with ⟨h1, h2⟩ | ⟨h1, h2⟩
    · rw [decL, dif_pos h1, if_pos h2]
    · rw [decL, dif_neg (by omega), if_pos h2]
  | cons p l ih =>
    intro l0 hp hlen
    obtain ⟨hm, hl, hf⟩ := hp p (by simp)
    have hX : (p :: l).flatMap (encS k) ++ r = lowBits p.1 4 ++ (lowBits (p.2.length : Int) (cntB p.1 k) ++ (encD p.1 p.2 ++ (l.flatMap (encS k) ++ r))) := by
      rw [List.flatMap_cons, encS]
      simp only [List.append_assoc]
    have hll := length_lowBits p.1 4
    have hT : ((p :: l).flatMap (encS k) ++ r).take 4 = lowBits p.1 4 := by
      rw [hX, List.take_append_of_le_length (by omega), List.take_of_length_le (by omega)]
    have hD : ((p :: l).flatMap (encS k) ++ r).drop 4 = lowBits (p.2.length : Int) (cntB p.1 k) ++ (encD p.1 p.2 ++ (l.flatMap (encS k) ++ r)) := by
      rw [hX, List.drop_append_of_le_length (by omega), List.drop_of_length_le (by omega)]; rfl
    have hM := mode_num p.1 hm
    have hne : p.1 ≠ 0 := by intro e; rw [e] at hm; cases hm
    rw [decL, dif_neg (by rw [hX, List.length_append, hll]; omega), hT, hD, hM, if_neg hne, if_neg (by rw [hm]; simp), if_neg (by simp at hlen; omega), read_enc p.1 k hm p.2 _ hl hf, if_neg (by simp)]
    rw [ih (l0 ++ [(p.1, p.2)]) (fun q hq => hp q (by simp [hq])) (by simp at hlen ⊢; omega)]
    simp

end Go.Proofs.Ythebfpolijajgaa
