/-
  Plain: unpacking restores a packed message.
  No program; conditions stand in each lemma.
-/
import Derived.Test.YtbfcgggcdmafoaaRtPlain
import Derived.Test.YtbfcgggcdmafoaaQrK
namespace Go.Proofs.Ytbfcgggcdmafoaa
open Go.Bs Go.Mode Go.Qr

theorem pk_inv {l : List SegD} {i t p v lv : Int} {R : List Int} (h : pkRes l i t p v lv = (R, 0)) :
    ∃ C K hb eb, cpRes v lv = (C, 0) ∧ hdRes i t p = (hb, 0) ∧ clRes v = (K, 0) ∧ encRes l K = (eb, 0) ∧ padRes (hb ++ eb) C = (R, 0) := by
  obtain ⟨C, E1, h1⟩ : ∃ C E1, cpRes v lv = (C, E1) := ⟨_, _, rfl⟩
  obtain ⟨hb, E2, h2⟩ : ∃ hb E2, hdRes i t p = (hb, E2) := ⟨_, _, rfl⟩
  obtain ⟨K, E3, h3⟩ : ∃ K E3, clRes v = (K, E3) := ⟨_, _, rfl⟩
  obtain ⟨eb, E4, h4⟩ : ∃ eb E4, encRes l K = (eb, E4) := ⟨_, _, rfl⟩
  by_cases e1 : E1 = 0
  case neg => rw [pk1 h1 e1] at h; cases h; exact absurd rfl e1
  subst e1
  by_cases e2 : E2 = 0
  case neg => rw [pk2 h1 h2 e2] at h; cases h; exact absurd rfl e2
  subst e2
  by_cases e3 : E3 = 0
  case neg => rw [pk3 h1 h2 h3 e3] at h; cases h; exact absurd rfl e3
  subst e3
  by_cases e4 : E4 = 0
  case neg => rw [pk4 h1 h2 h3 h4 e4] at h; cases h; exact absurd rfl e4
  subst e4
  rw [pk5 h1 h2 h3 h4] at h
  exact ⟨C, K, hb, eb, h1, h2, h3, h4, h⟩

theorem pad_inv {xs : List Bool} {n : Int} {R : List Int} (h : padRes xs n = (R, 0)) : ∃ N : Nat, n = N ∧ N ≤ 4096 ∧ xs.length ≤ 8 * N ∧ R = padW xs N := by
  unfold padRes at h
  split at h
  · cases h
  · split at h
    · cases h
    · cases h
      refine ⟨n.toNat, by omega, by omega, by omega, rfl⟩

theorem num_zeros (n : Nat) : num (List.replicate n false) = 0 := by
  induction n with
  | zero => rfl
  | succ n ih => rw [List.replicate_succ', num_snoc, ih]; rfl

def tailOf (xs : List Bool) (N : Nat) : List Bool := List.replicate (Qr.t1 xs.length N) false ++ (List.replicate (Qr.t2 xs.length N) false ++ padsB (N - nb xs.length N))
theorem full_tail (xs : List Bool) (N : Nat) : full xs N = xs ++ tailOf xs N := by unfold full body tailOf; simp only [List.append_assoc]
theorem tail_end (xs : List Bool) (N : Nat) (h : xs.length ≤ 8 * N) : EndOk (tailOf xs N) := by
  have h8 := body8 xs.length N h
  by_cases h4 : Qr.t1 xs.length N = 4
  · refine Or.inr ⟨by unfold tailOf; rw [List.length_append, List.length_replicate, h4]; omega, ?_⟩
    unfold tailOf
    rw [h4, List.take_append_of_le_length (by simp), List.take_of_length_le (by simp)]
    exact num_zeros 4
  · have h1 : Qr.t1 xs.length N = min 4 (8 * N - xs.length) := rfl
    have h2 : Qr.t2 xs.length N = (8 * N - (xs.length + Qr.t1 xs.length N)) % 8 := rfl
    have h3 : Qr.t2 xs.length N = 0 := by omega
    have h5 : N - nb xs.length N = 0 := by omega
    have e : tailOf xs N = List.replicate (Qr.t1 xs.length N) false := by unfold tailOf; rw [h3, h5]; simp [padsB]
    rw [e]
    exact Or.inl ⟨by rw [List.length_replicate]; omega, num_zeros _⟩

theorem from_pad (xs : List Bool) (N : Nat) (h : xs.length ≤ 8 * N) : fromTo (padW xs N) 8 (padW xs N).length = full xs N := by
  rw [length_padW xs N h, ← words_full xs N h, from_words (full xs N) 8 0 false N N (Nat.le_refl _) (by rw [length_full xs N h]; omega)]
  simp only [List.replicate_zero, List.append_nil]
  exact List.take_of_length_le (by rw [length_full xs N h]; omega)
theorem pad_okw (xs : List Bool) (N : Nat) (h : xs.length ≤ 8 * N) : (padW xs N).all (okw 8) = true := by
  rw [← words_full xs N h]; exact words_ok _ _ _ _

theorem enc_inv {l : List SegD} {K : Int} {eb : List Bool} (h : encRes l K = (eb, 0)) : ∃ k : Nat, K = k ∧ k ≤ 2 ∧ eb = l.flatMap (encS k) ∧ l.length ≤ 4096 ∧ ∀ q ∈ l, okMode q.1 = true ∧ q.2.length < 2 ^ cntB q.1 k ∧ ∀ c ∈ q.2, fitsB q.1 c = true := by
  obtain ⟨T, E, hTE⟩ : ∃ T E, bitsRes l K = (T, E) := ⟨_, _, rfl⟩
  unfold encRes at h
  rw [hTE] at h
  by_cases hE : E = 0
  · subst hE
    obtain ⟨k, rfl, hk, hok, h4, hlen, hfit, htot, _⟩ := bits_inv hTE
    simp only [if_true, Int.toNat_natCast, Prod.mk.injEq, and_true] at h
    refine ⟨k, rfl, hk, h.symm, h4, fun q hq => ⟨(List.all_eq_true.1 hok) q hq, by simpa using (List.all_eq_true.1 hlen) q hq, ?_⟩⟩
    have := (List.all_eq_true.1 hfit) q hq
    exact fun c hc => (List.all_eq_true.1 this) c hc
  · rw [if_neg hE] at h
    simp only [Prod.mk.injEq] at h
    exact absurd h.2 hE

theorem low_num (v : Int) (n : Nat) (h0 : 0 ≤ v) (h : v < 2 ^ n) : num (lowBits v n) = v := by rw [num_lowBits, Int.emod_eq_of_lt h0 h]

theorem cut_low (a b c : List Bool) (n : Nat) (ha : a.length = n) (m : Nat) (hb : b.length = m) : ((a ++ (b ++ c)).drop n).take m = b := by
  subst ha hb
  simp

theorem unp_pack {l : List SegD} {i t p v lv : Int} {R : List Int} (h : pkRes l i t p v lv = (R, 0)) : unpRes R v = (l, (i, t, p), 0) := by
  obtain ⟨C, K, hb, eb, h1, h2, h3, h4, h5⟩ := pk_inv h
  obtain ⟨N, rfl, hN, hxs, rfl⟩ := pad_inv h5
  obtain ⟨k, rfl, hk, rfl, hl4, hall⟩ := enc_inv h4
  rw [up_4 h3 (by rw [length_padW _ N hxs]; omega) (pad_okw _ N hxs), from_pad _ N hxs]
  have hte := tail_end _ N hxs
  have hfl := length_full _ N hxs
  rw [full_tail] at hfl ⊢
  obtain ⟨r, hr⟩ : ∃ r, r = tailOf (hb ++ l.flatMap (encS k)) N := ⟨_, rfl⟩
  rw [← hr] at hte hfl ⊢
  clear hr
  have hdec := decL_enc k r hte l [] hall (by simpa using hl4)
  rw [List.nil_append] at hdec
  have hdr : ∀ bs : List Bool, bs.length ≤ 1048576 → decRes bs k = decL k [] bs := by
    intro bs hbs
    unfold decRes
    rw [if_neg (by omega), if_neg (by omega)]
    rfl
  unfold hdRes at h2
  split at h2
  · rename_i h0
    obtain ⟨rfl, rfl, rfl⟩ := h0
    cases h2
    rw [List.nil_append] at hfl ⊢
    refine ub_6 ?_ (by rw [hdr _ (by omega)]; exact hdec)
    rintro ⟨hle, h3'⟩
    cases l with
    | nil =>
      rw [List.flatMap_nil, List.nil_append] at hle h3'
      rcases hte with ⟨hq, _⟩ | ⟨_, hq⟩
      · omega
      · rw [hq] at h3'; cases h3'
    | cons q l =>
      have hm := (hall q (by simp)).1
      have hT : ((q :: l).flatMap (encS k) ++ r).take 4 = lowBits q.1 4 := by
        rw [List.flatMap_cons, encS]
        simp only [List.append_assoc]
        rw [List.take_append_of_le_length (by rw [length_lowBits]; exact Nat.le_refl _), List.take_of_length_le (by rw [length_lowBits]; exact Nat.le_refl _)]
      rw [hT, mode_num q.1 hm] at h3'
      rw [h3'] at hm
      cases hm
  · split at h2
    · cases h2
    · rename_i h0 hbd
      cases h2
      have hX : hdBits i t p ++ l.flatMap (encS k) ++ r = lowBits 3 4 ++ (lowBits i 4 ++ (lowBits (t - 1) 4 ++ (lowBits p 8 ++ (l.flatMap (encS k) ++ r)))) := by unfold hdBits; simp only [List.append_assoc]
      have hI : hdI (hdBits i t p ++ l.flatMap (encS k) ++ r) = i := by
        unfold hdI
        rw [hX, cut_low _ _ _ 4 (length_lowBits _ _) 4 (length_lowBits _ _)]
        exact low_num i 4 (by omega) (by omega)
      have hT : hdT (hdBits i t p ++ l.flatMap (encS k) ++ r) = t := by
        unfold hdT
        rw [hX, ← List.append_assoc, cut_low _ _ _ 8 (by simp [length_lowBits]) 4 (length_lowBits _ _), low_num (t - 1) 4 (by omega) (by omega)]
        omega
      have hP : hdP (hdBits i t p ++ l.flatMap (encS k) ++ r) = p := by
        unfold hdP
        rw [hX, ← List.append_assoc, ← List.append_assoc, cut_low _ _ _ 12 (by simp [length_lowBits]) 8 (length_lowBits _ _)]
        exact low_num p 8 (by omega) (by omega)
      have hlen : (hdBits i t p ++ l.flatMap (encS k) ++ r).length ≥ 20 := by rw [List.append_assoc, List.length_append, length_hdBits]; omega
      have h4' : num ((hdBits i t p ++ l.flatMap (encS k) ++ r).take 4) = 3 := by
        rw [hX, List.take_append_of_le_length (by rw [length_lowBits]; exact Nat.le_refl _), List.take_of_length_le (by rw [length_lowBits]; exact Nat.le_refl _)]
        exact low_num 3 4 (by omega) (by omega)
      have hdrop : (hdBits i t p ++ l.flatMap (encS k) ++ r).drop 20 = l.flatMap (encS k) ++ r := by
        rw [List.append_assoc, List.drop_append_of_le_length (by rw [length_hdBits]; exact Nat.le_refl _), List.drop_of_length_le (by rw [length_hdBits]; exact Nat.le_refl _)]
        rfl
      rw [ub_4 (l := l) ⟨by omega, h4'⟩ (by omega) (by rw [hT, hI]; omega) (by rw [hdrop, hdr _ (by have := congrArg List.length hdrop; rw [List.length_drop] at this; omega)]; exact hdec), hI, hT, hP]

theorem pk_len {l : List SegD} {i t p v lv : Int} {R : List Int} (h : pkRes l i t p v lv = (R, 0)) : (cpRes v lv) = ((R.length : Int), 0) ∧ R.length ≤ 4096 ∧ ∀ j (hj : j < R.length), 0 ≤ R[j] ∧ R[j] ≤ 255 := by
  obtain ⟨C, K, hb, eb, h1, h2, h3, h4, h5⟩ := pk_inv h
  obtain ⟨N, rfl, hN, hxs, rfl⟩ := pad_inv h5
  have hl := length_padW _ N hxs
  refine ⟨by rw [hl]; exact h1, by rw [hl]; exact hN, fun j hj => ?_⟩
  have := (List.all_eq_true.1 (pad_okw _ N hxs)) _ (List.getElem_mem hj)
  unfold okw at this
  simp at this
  omega
theorem pk_err {l : List SegD} {i t p v lv E : Int} {R : List Int} (h : pkRes l i t p v lv = (R, E)) (hE : E ≠ 0) : R = [] := by
  unfold pkRes at h
  split at h
  · cases h; rfl
  · split at h
    · cases h; rfl
    · split at h
      · cases h; rfl
      · split at h
        · cases h; rfl
        · unfold padRes at h
          split at h
          · cases h; rfl
          · split at h
            · cases h; rfl
            · cases h; exact absurd rfl hE

end Go.Proofs.Ytbfcgggcdmafoaa
