/-
  Plain: what is filled in and what is signed stay apart; what is filled in and signed can be read.
  Conditions stand in each lemma.
-/
import Derived.Test.YtjkpdhcnklgfbaaRSign
import Derived.Test.YtjkpdhcnklgfbaaFill
import Derived.Test.YtjkpdhcnklgfbaaDark
import Derived.Test.YtjkpdhcnklgfbaaCount
namespace Go.Back
open Go.Qrv Go.Lay Go.Bs Go.Bch Go.Proofs.Ytjkpdhcnklgfbaa

/-! ### places -/

theorem fm_mem {s c i : Nat} (hi : i < 15) : fmAt s c i ∈ fmL s c 15 := List.mem_map.2 ⟨i, List.mem_range.2 hi, rfl⟩
theorem vr_mem {s c i : Nat} (hi : i < 18) : vrAt s c i ∈ vrL s c 18 := List.mem_map.2 ⟨i, List.mem_range.2 hi, rfl⟩
theorem fm_get {s c i : Nat} (hi : i < 15) : (fmL s c 15)[i]? = some (fmAt s c i) := by unfold fmL; rw [List.getElem?_map, List.getElem?_range hi]; rfl
theorem vr_get {s c i : Nat} (hi : i < 18) : (vrL s c 18)[i]? = some (vrAt s c i) := by unfold vrL; rw [List.getElem?_map, List.getElem?_range hi]; rfl
theorem pos_eq {k : Nat} {p q : Nat × Nat} (hp : p.1 < k) (hq : q.1 < k) (h : posOf k p = posOf k q) : p = q := by
  apply Prod.ext
  · exact Classical.byContradiction fun e => pos_ne hp hq (.inl e) h
  · exact Classical.byContradiction fun e => pos_ne hp hq (.inr e) h
theorem fm_nodup (s c : Nat) (hs : 21 ≤ s) : ((fmL s c 15).map (posOf s)).Nodup := by
  unfold List.Nodup
  rw [List.pairwise_map]
  unfold fmL
  rw [List.pairwise_map, List.pairwise_iff_getElem]
  intro a b ha hb hab
  rw [List.length_range] at ha hb
  rw [List.getElem_range, List.getElem_range]
  have h1 := fmL_in s c hs _ (fm_mem ha)
  have h2 := fmL_in s c hs _ (fm_mem hb)
  refine pos_ne h1.1 h2.1 ?_
  unfold fmAt
  repeat' split
  all_goals (simp <;> omega)
theorem vr_nodup (s c : Nat) (hs : 45 ≤ s) : ((vrL s c 18).map (posOf s)).Nodup := by
  unfold List.Nodup
  rw [List.pairwise_map]
  unfold vrL
  rw [List.pairwise_map, List.pairwise_iff_getElem]
  intro a b ha hb hab
  rw [List.length_range] at ha hb
  rw [List.getElem_range, List.getElem_range]
  have h1 := vrL_in s c hs _ (vr_mem ha)
  have h2 := vrL_in s c hs _ (vr_mem hb)
  refine pos_ne h1.1 h2.1 ?_
  unfold vrAt
  repeat' split
  all_goals (simp <;> omega)
theorem away_ff (s : Nat) (hs : 21 ≤ s) : Away s (fmL s 0 15) (fmL s 1 15) := by
  intro p hp q hq
  have hp1 := fmL_in s 0 hs p hp
  have hq1 := fmL_in s 1 hs q hq
  obtain ⟨i, hi, rfl⟩ := List.mem_map.1 hp
  obtain ⟨j, hj, rfl⟩ := List.mem_map.1 hq
  have := List.mem_range.1 hi
  have := List.mem_range.1 hj
  refine pos_ne hp1.1 hq1.1 ?_
  unfold fmAt
  repeat' split
  all_goals (simp <;> omega)
theorem away_vv (s : Nat) (hs : 45 ≤ s) : Away s (vrL s 0 18) (vrL s 1 18) := by
  intro p hp q hq
  have hp1 := vrL_in s 0 hs p hp
  have hq1 := vrL_in s 1 hs q hq
  obtain ⟨i, hi, rfl⟩ := List.mem_map.1 hp
  obtain ⟨j, hj, rfl⟩ := List.mem_map.1 hq
  have := List.mem_range.1 hi
  have := List.mem_range.1 hj
  refine pos_ne hp1.1 hq1.1 ?_
  unfold vrAt
  repeat' split
  all_goals (simp <;> omega)
set_option maxRecDepth 100000 in
theorem pur_fm_all : ∀ n : Fin 40, ∀ c : Fin 2, ∀ i : Fin 15, pur ((n.val + 1 : Nat) : Int) (sd (n.val + 1) : Nat) (al (n.val + 1)) ((fmAt (sd (n.val + 1)) c.val i.val).1 : Nat) ((fmAt (sd (n.val + 1)) c.val i.val).2 : Nat) = 5 := by decide +kernel
set_option maxRecDepth 100000 in
theorem pur_vr_all : ∀ n : Fin 34, ∀ c : Fin 2, ∀ i : Fin 18, pur ((n.val + 7 : Nat) : Int) (sd (n.val + 7) : Nat) (al (n.val + 7)) ((vrAt (sd (n.val + 7)) c.val i.val).1 : Nat) ((vrAt (sd (n.val + 7)) c.val i.val).2 : Nat) = 6 := by decide +kernel
theorem pur_fm {n c : Nat} (h1 : 1 ≤ n) (h2 : n ≤ 40) (hc : c ≤ 1) {p : Nat × Nat} (hp : p ∈ fmL (sd n) c 15) : pur n (sd n) (al n) p.1 p.2 = 5 := by
  obtain ⟨i, hi, rfl⟩ := List.mem_map.1 hp
  have := pur_fm_all ⟨n - 1, by omega⟩ ⟨c, by omega⟩ ⟨i, List.mem_range.1 hi⟩
  simp only [show n - 1 + 1 = n by omega] at this
  exact this
theorem pur_vr {n c : Nat} (h1 : 7 ≤ n) (h2 : n ≤ 40) (hc : c ≤ 1) {p : Nat × Nat} (hp : p ∈ vrL (sd n) c 18) : pur n (sd n) (al n) p.1 p.2 = 6 := by
  obtain ⟨i, hi, rfl⟩ := List.mem_map.1 hp
  have := pur_vr_all ⟨n - 7, by omega⟩ ⟨c, by omega⟩ ⟨i, List.mem_range.1 hi⟩
  simp only [show n - 7 + 7 = n by omega] at this
  exact this

/-- A place that signing does not touch. -/
def Off (n z : Nat) : Prop := (∀ c, c ≤ 1 → ∀ q ∈ fmL (sd n) c 15, posOf (sd n) q ≠ z) ∧ (7 ≤ n → ∀ c, c ≤ 1 → ∀ q ∈ vrL (sd n) c 18, posOf (sd n) q ≠ z)
theorem off_of {n : Nat} (h1 : 1 ≤ n) (h2 : n ≤ 40) {x y : Nat} (hx : x < sd n) (h5 : pur n (sd n) (al n) x y ≠ 5) (h6 : pur n (sd n) (al n) x y ≠ 6) : Off n (posOf (sd n) (x, y)) := by
  refine ⟨fun c hc q hq e => ?_, fun h7 c hc q hq e => ?_⟩
  · have hb := fmL_in (sd n) c (by unfold sd; omega) q hq
    have hqe : q = (x, y) := pos_eq hb.1 hx e
    have := pur_fm h1 h2 hc hq
    rw [hqe] at this
    exact h5 this
  · have hb := vrL_in (sd n) c (by unfold sd; omega) q hq
    have hqe : q = (x, y) := pos_eq hb.1 hx e
    have := pur_vr h7 h2 hc hq
    rw [hqe] at this
    exact h6 this
theorem path_off {n : Nat} (h1 : 1 ≤ n) (h2 : n ≤ 40) {p : Nat × Nat} (hp : p ∈ pathN n) : Off n (posOf (sd n) p) := by
  obtain ⟨x, y⟩ := p
  obtain ⟨hx, hy, hd⟩ := (Go.Cnt.mem_data n x y h1).1 hp
  have hd : pur n (sd n) (al n) x y = 1 := beq_iff_eq.1 hd
  exact off_of h1 h2 hx (by rw [hd]; decide) (by rw [hd]; decide)

/-! ### writing -/

theorem getD_set_self {xs : List Bool} {z : Nat} (b : Bool) (h : z < xs.length) : (xs.set z b).getD z false = b := by
  rw [List.getD_eq_getElem?_getD, List.getElem?_set_self h]; rfl
theorem getD_set_ne {xs : List Bool} {z y : Nat} (b : Bool) (h : z ≠ y) : (xs.set z b).getD y false = xs.getD y false := by
  rw [List.getD_eq_getElem?_getD, List.getD_eq_getElem?_getD, List.getElem?_set_ne h]
theorem wr_off (k : Nat) (ps : List (Nat × Nat)) (a : Int) (xs : List Bool) (z : Nat) (h : ∀ p ∈ ps, posOf k p ≠ z) : ∀ i, (wrN k ps a xs i).getD z false = xs.getD z false
  | 0 => rfl
  | i + 1 => by
    unfold wrN
    split
    · rename_i p hp
      rw [getD_set_ne _ (h p (List.mem_of_getElem? hp)), wr_off k ps a xs z h i]
    · exact wr_off k ps a xs z h i
theorem wr_on (k : Nat) (ps : List (Nat × Nat)) (a : Int) (xs : List Bool) (hn : (ps.map (posOf k)).Nodup) (i : Nat) (p : Nat × Nat) (hp : ps[i]? = some p) (hz : posOf k p < xs.length) : ∀ j, i < j → (wrN k ps a xs j).getD (posOf k p) false = bitOf a i
  | 0, h => absurd h (Nat.not_lt_zero _)
  | j + 1, h => by
    unfold wrN
    by_cases e : i = j
    · subst e
      rw [hp]
      exact getD_set_self _ (by rw [wrN_len]; exact hz)
    · split
      · rename_i q hq
        have hi : i < ps.length := (List.getElem?_eq_some_iff.1 hp).1
        have hj : j < ps.length := (List.getElem?_eq_some_iff.1 hq).1
        have hne : posOf k q ≠ posOf k p := by
          have h0 := (List.pairwise_iff_getElem.1 hn) i j (by simpa using hi) (by simpa using hj) (by omega)
          rw [List.getElem_map, List.getElem_map, (List.getElem?_eq_some_iff.1 hp).2, (List.getElem?_eq_some_iff.1 hq).2] at h0
          exact fun e => h0 e.symm
        rw [getD_set_ne _ hne]
        exact wr_on k ps a xs hn i p hp hz j (by omega)
      · exact wr_on k ps a xs hn i p hp hz j (by omega)
theorem fl_off (k : Nat) (ps : List (Nat × Nat)) (bs xs : List Bool) (z : Nat) (h : ∀ p ∈ ps, posOf k p ≠ z) : ∀ i, (flT k ps bs xs i).getD z false = xs.getD z false
  | 0 => rfl
  | i + 1 => by
    unfold flT
    split
    · rename_i p hp
      rw [getD_set_ne _ (h p (List.mem_of_getElem? hp)), fl_off k ps bs xs z h i]
    · exact fl_off k ps bs xs z h i
theorem fl_on (k : Nat) (ps : List (Nat × Nat)) (bs xs : List Bool) (hn : (ps.map (posOf k)).Nodup) (i : Nat) (p : Nat × Nat) (hp : ps[i]? = some p) (hz : posOf k p < xs.length) : ∀ j, i < j → (flT k ps bs xs j).getD (posOf k p) false = bs.getD i false
  | 0, h => absurd h (Nat.not_lt_zero _)
  | j + 1, h => by
    unfold flT
    by_cases e : i = j
    · subst e
      rw [hp]
      exact getD_set_self _ (by rw [flT_len]; exact hz)
    · split
      · rename_i q hq
        have hi : i < ps.length := (List.getElem?_eq_some_iff.1 hp).1
        have hj : j < ps.length := (List.getElem?_eq_some_iff.1 hq).1
        have hne : posOf k q ≠ posOf k p := by
          have h0 := (List.pairwise_iff_getElem.1 hn) i j (by simpa using hi) (by simpa using hj) (by omega)
          rw [List.getElem_map, List.getElem_map, (List.getElem?_eq_some_iff.1 hp).2, (List.getElem?_eq_some_iff.1 hq).2] at h0
          exact fun e => h0 e.symm
        rw [getD_set_ne _ hne]
        exact fl_on k ps bs xs hn i p hp hz j (by omega)
      · exact fl_on k ps bs xs hn i p hp hz j (by omega)

/-! ### signing -/

theorem sign_set {n : Nat} (word : Int) (xs : List Bool) (z : Nat) (b : Bool) (h : Off n z) : signN n word (xs.set z b) = (signN n word xs).set z b := by
  unfold signN sgV sgF
  have f0 := h.1 0 (by decide)
  have f1 := h.1 1 (by decide)
  split
  · rename_i h7
    have v0 := h.2 h7 0 (by decide)
    have v1 := h.2 h7 1 (by decide)
    rw [wrN_set _ _ _ _ _ _ f0, wrN_set _ _ _ _ _ _ f1, wrN_set _ _ _ _ _ _ v0, wrN_set _ _ _ _ _ _ v1]
  · rw [wrN_set _ _ _ _ _ _ f0, wrN_set _ _ _ _ _ _ f1]
theorem sign_off {n : Nat} (word : Int) (xs : List Bool) (z : Nat) (h : Off n z) : (signN n word xs).getD z false = xs.getD z false := by
  unfold signN sgV sgF
  have f0 := h.1 0 (by decide)
  have f1 := h.1 1 (by decide)
  split
  · rename_i h7
    have v0 := h.2 h7 0 (by decide)
    have v1 := h.2 h7 1 (by decide)
    rw [wr_off _ _ _ _ _ v1, wr_off _ _ _ _ _ v0, wr_off _ _ _ _ _ f1, wr_off _ _ _ _ _ f0]
  · rw [wr_off _ _ _ _ _ f1, wr_off _ _ _ _ _ f0]
theorem sign_flT {n : Nat} (word : Int) (ps : List (Nat × Nat)) (bs xs : List Bool) (h : ∀ p ∈ ps, Off n (posOf (sd n) p)) : ∀ j, signN n word (flT (sd n) ps bs xs j) = flT (sd n) ps bs (signN n word xs) j
  | 0 => rfl
  | j + 1 => by
    unfold flT
    cases hp : ps[j]? with
    | some p =>
      simp only []
      rw [sign_set word _ _ _ (h p (List.mem_of_getElem? hp)), sign_flT word ps bs xs h j]
    | none => exact sign_flT word ps bs xs h j
/-- Signing and filling in may be exchanged. -/
theorem sign_fill {n : Nat} (h1 : 1 ≤ n) (h2 : n ≤ 40) (word : Int) (bs xs : List Bool) : signN n word (flL (sd n) (pathN n) bs xs) = flL (sd n) (pathN n) bs (signN n word xs) :=
  sign_flT word _ bs xs (fun _ hp => path_off h1 h2 hp) _
/-- The format information that was written. -/
theorem sign_fm {n c i : Nat} (h1 : 1 ≤ n) (hc : c ≤ 1) (hi : i < 15) (word : Int) (xs : List Bool) (hl : xs.length = sd n * sd n) : (signN n word xs).getD (posOf (sd n) (fmAt (sd n) c i)) false = bitOf word i := by
  have hs : 21 ≤ sd n := by unfold sd; omega
  have hb := fmL_in (sd n) c hs _ (fm_mem hi)
  have hz : posOf (sd n) (fmAt (sd n) c i) < xs.length := by
    rw [hl]
    unfold posOf
    have : ((fmAt (sd n) c i).2 + 1) * sd n ≤ sd n * sd n := Nat.mul_le_mul_right _ hb.2
    rw [Nat.add_mul] at this
    omega
  have hF : (sgF (sd n) word xs).getD (posOf (sd n) (fmAt (sd n) c i)) false = bitOf word i := by
    unfold sgF
    rcases (show c = 0 ∨ c = 1 by omega) with rfl | rfl
    · rw [wr_off _ _ _ _ _ (fun q hq e => away_ff (sd n) hs _ (fm_mem hi) q hq e.symm)]
      exact wr_on _ _ _ _ (fm_nodup _ _ hs) i _ (fm_get hi) hz 15 hi
    · exact wr_on _ _ _ _ (fm_nodup _ _ hs) i _ (fm_get hi) (by rw [wrN_len]; exact hz) 15 hi
  unfold signN
  split
  · unfold sgV
    have hv : ∀ d, ∀ q ∈ vrL (sd n) d 18, posOf (sd n) q ≠ posOf (sd n) (fmAt (sd n) c i) := fun d q hq => away_fv (sd n) d c (by unfold sd; omega) q hq _ (fm_mem hi)
    rw [wr_off _ _ _ _ _ (hv 1), wr_off _ _ _ _ _ (hv 0)]
    exact hF
  · exact hF
/-- The version information that was written. -/
theorem sign_vr {n c i : Nat} (h7 : 7 ≤ n) (hc : c ≤ 1) (hi : i < 18) (word : Int) (xs : List Bool) (hl : xs.length = sd n * sd n) : (signN n word xs).getD (posOf (sd n) (vrAt (sd n) c i)) false = bitOf (verRes n).1 i := by
  have hs : 45 ≤ sd n := by unfold sd; omega
  have hb := vrL_in (sd n) c hs _ (vr_mem hi)
  have hz : posOf (sd n) (vrAt (sd n) c i) < xs.length := by
    rw [hl]
    unfold posOf
    have : ((vrAt (sd n) c i).2 + 1) * sd n ≤ sd n * sd n := Nat.mul_le_mul_right _ hb.2
    rw [Nat.add_mul] at this
    omega
  unfold signN
  rw [if_pos h7]
  unfold sgV
  rcases (show c = 0 ∨ c = 1 by omega) with rfl | rfl
  · rw [wr_off _ _ _ _ _ (fun q hq e => away_vv (sd n) hs _ (vr_mem hi) q hq e.symm)]
    exact wr_on _ _ _ _ (vr_nodup _ _ hs) i _ (vr_get hi) (by rw [sgF_len]; exact hz) 18 hi
  · exact wr_on _ _ _ _ (vr_nodup _ _ hs) i _ (vr_get hi) (by rw [wrN_len, sgF_len]; exact hz) 18 hi

/-! ### extraction -/

theorem path_in {n : Nat} (h1 : 1 ≤ n) {p : Nat × Nat} (hp : p ∈ pathN n) : posOf (sd n) p < sd n * sd n := by
  obtain ⟨x, y⟩ := p
  obtain ⟨hx, hy, _⟩ := (Go.Cnt.mem_data n x y h1).1 hp
  unfold posOf
  have : (y + 1) * sd n ≤ sd n * sd n := Nat.mul_le_mul_right _ hy
  rw [Nat.add_mul] at this
  simp only []
  omega
theorem ex_fill {n : Nat} (h1 : 1 ≤ n) (h2 : n ≤ 40) (bs xs : List Bool) (hl : xs.length = sd n * sd n) (hb : bs.length = 8 * wordsN n) : exL n (flL (sd n) (pathN n) bs xs) = bs := by
  have hr := Go.Cnt.path_room n h1 h2
  unfold exL exB
  apply List.ext_getElem
  · rw [List.length_map, List.length_take]; omega
  · intro i hi1 hi2
    rw [List.length_map, List.length_take] at hi1
    rw [List.getElem_map, List.getElem_take]
    have hi : i < (pathN n).length := by omega
    have hp : (pathN n)[i]? = some (pathN n)[i] := List.getElem?_eq_getElem hi
    have := fl_on (sd n) (pathN n) bs xs (Go.Cnt.idx_nodup n h1) i _ hp (by rw [hl]; exact path_in h1 (List.getElem_mem hi)) (pathN n).length hi
    unfold flL
    rw [this, List.getD_eq_getElem?_getD, List.getElem?_eq_getElem hi2]
    rfl
theorem drop_flat (f : Int → List Bool) (q : Nat) (hf : ∀ v, (f v).length = q) : ∀ (l : List Int) (j : Nat), (l.flatMap f).drop (j * q) = (l.drop j).flatMap f := by
  intro l
  induction l with
  | nil => intro j; simp
  | cons a l ih =>
    intro j
    match j with
    | 0 => simp
    | j + 1 =>
      rw [List.flatMap_cons, Nat.add_mul, Nat.one_mul, Nat.add_comm, List.drop_append, hf, List.drop_of_length_le (by rw [hf]; omega), List.nil_append, Nat.add_sub_cancel_left, ih, List.drop_succ_cons]
theorem low_num : ∀ v : Int, num (lowBits v 8) = v % 256 := by
  intro v
  unfold lowBits lowFrom num bitOf
  simp only [show List.range 8 = [0, 1, 2, 3, 4, 5, 6, 7] from rfl, List.map_cons, List.map_nil, List.foldl_cons, List.foldl_nil, beq_iff_eq]
  simp only [show (8 - 1 - 0 : Nat) = 7 from rfl, show (8 - 1 - 1 : Nat) = 6 from rfl, show (8 - 1 - 2 : Nat) = 5 from rfl, show (8 - 1 - 3 : Nat) = 4 from rfl, show (8 - 1 - 4 : Nat) = 3 from rfl, show (8 - 1 - 5 : Nat) = 2 from rfl, show (8 - 1 - 6 : Nat) = 1 from rfl, show (8 - 1 - 7 : Nat) = 0 from rfl]
  simp only [show (2 : Int) ^ 7 = 128 from rfl, show (2 : Int) ^ 6 = 64 from rfl, show (2 : Int) ^ 5 = 32 from rfl, show (2 : Int) ^ 4 = 16 from rfl, show (2 : Int) ^ 3 = 8 from rfl, show (2 : Int) ^ 2 = 4 from rfl, show (2 : Int) ^ 1 = 2 from rfl, show (2 : Int) ^ 0 = 1 from rfl]
  have h1 : ∀ u : Int, (if u % 2 = 1 then (1 : Int) else 0) = u % 2 := fun u => by split <;> omega
  simp only [h1]
  have s0 : v / 1 = v := Int.ediv_one v
  have s1 : v = 2 * (v / 2) + v % 2 := by omega
  have s2 : v / 2 = 2 * (v / 4) + v / 2 % 2 := by omega
  have s3 : v / 4 = 2 * (v / 8) + v / 4 % 2 := by omega
  have s4 : v / 8 = 2 * (v / 16) + v / 8 % 2 := by omega
  have s5 : v / 16 = 2 * (v / 32) + v / 16 % 2 := by omega
  have s6 : v / 32 = 2 * (v / 64) + v / 32 % 2 := by omega
  have s7 : v / 64 = 2 * (v / 128) + v / 64 % 2 := by omega
  have s8 : v / 128 = 2 * (v / 256) + v / 128 % 2 := by omega
  have s9 : v = 256 * (v / 256) + v % 256 := by omega
  rw [s0]
  generalize v % 256 = r at *
  generalize v / 256 = q8 at *
  generalize v / 128 % 2 = b7 at *
  generalize v / 64 % 2 = b6 at *
  generalize v / 32 % 2 = b5 at *
  generalize v / 16 % 2 = b4 at *
  generalize v / 8 % 2 = b3 at *
  generalize v / 4 % 2 = b2 at *
  generalize v / 2 % 2 = b1 at *
  generalize v % 2 = b0 at *
  generalize v / 128 = q7 at *
  generalize v / 64 = q6 at *
  generalize v / 32 = q5 at *
  generalize v / 16 = q4 at *
  generalize v / 8 = q3 at *
  generalize v / 4 = q2 at *
  generalize v / 2 = q1 at *
  omega
/-- The codewords of the bits of codewords. -/
theorem words_from (ws : List Int) (h : ws.all (okw 8) = true) : wordsRes (fromTo ws 8 ws.length) 8 false = (ws, 0) := by
  have hlen : (fromTo ws 8 ws.length).length = ws.length * 8 := length_fromTo ws 8 _ (Nat.le_refl _)
  have e : fromTo ws 8 ws.length = ws.flatMap fun v => lowBits v 8 := by unfold fromTo; rw [List.take_length]
  have hR : wordsRes (fromTo ws 8 ws.length) ((8 : Nat) : Int) false = (wordsTo (fromTo ws 8 ws.length) 8 false (((fromTo ws 8 ws.length).length + 8 - 1) / 8), 0) := by
    rw [wordsRes_2 (by omega)]; rfl
  refine hR.trans ?_
  rw [hlen, show (ws.length * 8 + 8 - 1) / 8 = ws.length by omega]
  congr 1
  unfold wordsTo
  apply List.ext_getElem
  · simp
  · intro j h1 h2
    rw [List.getElem_map, List.getElem_range]
    have hp : pad (fromTo ws 8 ws.length) (j * 8) 8 false = lowBits ws[j] 8 := by
      unfold pad
      rw [e, drop_flat _ 8 (fun v => length_lowBits v 8), List.drop_eq_getElem_cons h2, List.flatMap_cons, List.append_assoc, List.take_append_of_le_length (by rw [length_lowBits]; exact Nat.le_refl _)]
      rw [List.take_of_length_le (by rw [length_lowBits]; exact Nat.le_refl _)]
    rw [hp, low_num]
    have hw := List.all_eq_true.1 h _ (List.getElem_mem h2)
    unfold okw at hw
    simp only [Bool.and_eq_true, decide_eq_true_eq] at hw
    have h8 : (2 : Int) ^ 8 = 256 := rfl
    rw [h8] at hw
    omega

/-! ### faults -/

theorem flt_same {n : Nat} (h1 : 1 ≤ n) (h2 : n ≤ 40) (word : Int) (bs xs : List Bool) (k : Nat) : fltN n (signN n word (flL (sd n) (pathN n) bs xs)) k = fltN n xs k := by
  unfold fltN
  congr 1
  refine List.filter_congr fun i _ => ?_
  unfold fltAt
  have hs : 0 < sd n := by unfold sd; omega
  have hm : i % sd n < sd n := Nat.mod_lt _ hs
  have he : i / sd n * sd n + i % sd n = i := by rw [Nat.mul_comm]; exact Nat.div_add_mod i (sd n)
  cases hp : isPat (pur n (sd n) (al n) ((i % sd n : Nat) : Int) ((i / sd n : Nat) : Int)) with
  | false => rfl
  | true =>
    have hq : pur n (sd n) (al n) ((i % sd n : Nat) : Int) ((i / sd n : Nat) : Int) ≠ 5 ∧ pur n (sd n) (al n) ((i % sd n : Nat) : Int) ((i / sd n : Nat) : Int) ≠ 6 ∧ pur n (sd n) (al n) ((i % sd n : Nat) : Int) ((i / sd n : Nat) : Int) ≠ 1 := by
      refine ⟨?_, ?_, ?_⟩ <;> intro e <;> rw [e] at hp <;> cases hp
    have ho := off_of h1 h2 hm hq.1 hq.2.1
    rw [show posOf (sd n) (i % sd n, i / sd n) = i from he] at ho
    rw [sign_off word _ i ho]
    unfold flL
    rw [fl_off]
    rintro ⟨x, y⟩ hpath e
    obtain ⟨hx, _, hd⟩ := (Go.Cnt.mem_data n x y h1).1 hpath
    have := pos_eq (k := sd n) (p := (x, y)) (q := (i % sd n, i / sd n)) hx hm (by rw [e]; exact he.symm)
    simp only [Prod.mk.injEq] at this
    obtain ⟨rfl, rfl⟩ := this
    exact hq.2.2 (beq_iff_eq.1 hd)

/-! ### reading -/

theorem rd_of (k : Nat) (ps : List (Nat × Nat)) (xs : List Bool) (W : Nat) : ∀ j, j ≤ ps.length → (∀ i p, i < j → ps[i]? = some p → xs.getD (posOf k p) false = bitOf (W : Int) i) → rdN k ps xs j = W % 2 ^ j
  | 0, _, _ => by rw [Nat.pow_zero, Nat.mod_one]; rfl
  | j + 1, hj, h => by
    have hp : ps[j]? = some (ps[j]'(by omega)) := List.getElem?_eq_getElem (by omega)
    rw [rdN_succ hp, rd_of k ps xs W j (by omega) (fun i p hi => h i p (by omega)), h j _ (by omega) hp, Nat.mod_pow_succ]
    congr 1
    unfold bitOf
    have hc : ((W : Int) / 2 ^ j) % 2 = ((W / 2 ^ j % 2 : Nat) : Int) := by rw [Int.natCast_emod, Int.natCast_ediv, Int.natCast_pow]; rfl
    rw [hc]
    rcases (show W / 2 ^ j % 2 = 0 ∨ W / 2 ^ j % 2 = 1 by omega) with e | e <;> rw [e] <;> simp
/-- How many modules differ. -/
def dfN (k : Nat) (ps : List (Nat × Nat)) (xs ys : List Bool) : Nat → Nat
  | 0 => 0
  | i + 1 => dfN k ps xs ys i + (match ps[i]? with | some p => if xs.getD (posOf k p) false = ys.getD (posOf k p) false then 0 else 1 | none => 0)
theorem wt_top : ∀ (k a : Nat), a < 2 ^ k → wt (2 ^ k + a) = wt a + 1
  | 0, a, h => by
    have : a = 0 := by simpa using h
    subst this
    rw [wt_zero]
    decide +kernel
  | k + 1, a, h => by
    have hp : (2 : Nat) ^ (k + 1) = 2 * 2 ^ k := by rw [Nat.pow_succ, Nat.mul_comm]
    rw [hp] at h ⊢
    have := wt_top k (a / 2) (by omega)
    rw [wt_step, wt_step a, show (2 * 2 ^ k + a) % 2 = a % 2 by omega, show (2 * 2 ^ k + a) / 2 = 2 ^ k + a / 2 by omega, this]
    omega
theorem xor_top : ∀ (k a b : Nat), a < 2 ^ k → b < 2 ^ k → (2 ^ k + a) ^^^ b = 2 ^ k + (a ^^^ b)
  | 0, a, b, h, h' => by
    have : a = 0 := by simpa using h
    have : b = 0 := by simpa using h'
    subst_vars
    rfl
  | k + 1, a, b, h, h' => by
    have hp : (2 : Nat) ^ (k + 1) = 2 * 2 ^ k := by rw [Nat.pow_succ, Nat.mul_comm]
    rw [hp] at h h' ⊢
    have := xor_top k (a / 2) (b / 2) (by omega) (by omega)
    have e1 := xor_div2 (2 * 2 ^ k + a) b
    have e2 := xor_mod2 (2 * 2 ^ k + a) b
    have e3 := xor_div2 a b
    have e4 := xor_mod2 a b
    rw [show (2 * 2 ^ k + a) / 2 = 2 ^ k + a / 2 by omega, this] at e1
    omega
theorem xor_both : ∀ (k a b : Nat), a < 2 ^ k → b < 2 ^ k → (2 ^ k + a) ^^^ (2 ^ k + b) = a ^^^ b
  | 0, a, b, h, h' => by
    have : a = 0 := by simpa using h
    have : b = 0 := by simpa using h'
    subst_vars
    rfl
  | k + 1, a, b, h, h' => by
    have hp : (2 : Nat) ^ (k + 1) = 2 * 2 ^ k := by rw [Nat.pow_succ, Nat.mul_comm]
    rw [hp] at h h' ⊢
    have := xor_both k (a / 2) (b / 2) (by omega) (by omega)
    have e1 := xor_div2 (2 * 2 ^ k + a) (2 * 2 ^ k + b)
    have e2 := xor_mod2 (2 * 2 ^ k + a) (2 * 2 ^ k + b)
    have e3 := xor_div2 a b
    have e4 := xor_mod2 a b
    rw [show (2 * 2 ^ k + a) / 2 = 2 ^ k + a / 2 by omega, show (2 * 2 ^ k + b) / 2 = 2 ^ k + b / 2 by omega, this] at e1
    omega
theorem rd_wt (k : Nat) (ps : List (Nat × Nat)) (xs ys : List Bool) : ∀ j, wt (rdN k ps xs j ^^^ rdN k ps ys j) = dfN k ps xs ys j
  | 0 => by
    show wt (0 ^^^ 0) = 0
    rw [Nat.xor_self]
    exact wt_zero
  | j + 1 => by
    have h1 := rdN_lt k ps xs j
    have h2 := rdN_lt k ps ys j
    have h3 := rd_wt k ps xs ys j
    have h4 := Nat.xor_lt_two_pow h1 h2
    unfold rdN dfN
    cases hp : ps[j]? with
    | none => simpa using h3
    | some p =>
      simp only []
      cases ex : xs.getD (posOf k p) false <;> cases ey : ys.getD (posOf k p) false
      · simpa using h3
      · simp only [Bool.false_eq_true, if_false, if_true, Nat.add_zero]
        rw [Nat.xor_comm, Nat.add_comm (rdN k ps ys j), xor_top j _ _ h2 h1, Nat.xor_comm, wt_top j _ h4, h3]
      · simp only [Bool.false_eq_true, if_false, if_true, Nat.add_zero, Bool.true_eq_false]
        rw [Nat.add_comm (rdN k ps xs j), xor_top j _ _ h1 h2, wt_top j _ h4, h3]
      · simp only [if_true, Nat.add_zero]
        rw [Nat.add_comm (rdN k ps xs j), Nat.add_comm (rdN k ps ys j), xor_both j _ _ h1 h2, h3]
theorem df_self (k : Nat) (ps : List (Nat × Nat)) (xs : List Bool) : ∀ j, dfN k ps xs xs j = 0
  | 0 => rfl
  | j + 1 => by
    unfold dfN
    rw [df_self k ps xs j]
    split
    · rw [if_pos rfl]
    · rfl
/-- The format information of a level and a mask. -/
def fw (l m : Nat) : Nat := cw (8 * bl l + m) 1335 ^^^ 21522
theorem fw_all : ∀ l : Fin 4, ∀ m : Fin 8, fw (l.val + 1) m.val < 32768 := by decide +kernel
theorem fw_lt {l m : Nat} (h1 : 1 ≤ l) (h2 : l ≤ 4) (hm : m ≤ 7) : fw l m < 32768 := by
  have := fw_all ⟨l - 1, by omega⟩ ⟨m, by omega⟩
  simp only [show l - 1 + 1 = l by omega] at this
  exact this
theorem fmt_nat {l m : Nat} (h1 : 1 ≤ l) (h2 : l ≤ 4) (hm : m ≤ 7) : fmtRes l m = (((fw l m : Nat) : Int), (0 : Int)) := by
  obtain rfl | rfl | rfl | rfl : l = 1 ∨ l = 2 ∨ l = 3 ∨ l = 4 := by omega
  · exact fmtB_2 (b := 1) hm
  · exact fmtB_2 (b := 0) hm
  · exact fmtB_2 (b := 3) hm
  · exact fmtB_2 (b := 2) hm
theorem pf_near {l m : Nat} (h1 : 1 ≤ l) (h2 : l ≤ 4) (hm : m ≤ 7) {R : Nat} (hR : R < 32768) (h : wt (R ^^^ fw l m) ≤ 3) : ∃ d : Int, pfRes R = ((l : Int), (m : Int), d, 0) := by
  have e : cw (8 * bl l + m) 1335 ^^^ (R ^^^ 21522) = R ^^^ fw l m := by unfold fw; rw [← Nat.xor_assoc, Nat.xor_comm _ R, Nat.xor_assoc]
  rw [pfRes_2 hR, pfN_yes R l m h1 h2 (by omega) (by rw [e]; exact h)]
  exact ⟨_, rfl⟩
theorem cw_all : ∀ v : Fin 64, cw v.val 7973 < 262144 := by decide +kernel
theorem pv_near {v : Nat} (h1 : 7 ≤ v) (h2 : v ≤ 40) {R : Nat} (hR : R < 262144) (h : wt (R ^^^ cw v 7973) ≤ 3) : ∃ d : Int, pvRes R = ((v : Int), d, 0) := by
  rw [pvRes_2 hR, pvN_yes R v (by omega) (by rw [Nat.xor_comm]; exact h), if_neg (by omega)]
  exact ⟨_, rfl⟩
/-- A copy that differs in at most three modules from what was signed. -/
theorem rf_near {n l m : Nat} (hn : 1 ≤ n) (h1 : 1 ≤ l) (h2 : l ≤ 4) (hm : m ≤ 7) (bs xs : List Bool) (hl : bs.length = sd n * sd n)
    (h : ∀ c, c ≤ 1 → dfN (sd n) (fmL (sd n) c 15) xs (signN n (fw l m : Nat) bs) 15 ≤ 3) : rfRes (sd n) xs = (((l : Int), (m : Int)), true) := by
  have hc : ∀ c, c ≤ 1 → ∃ d : Int, pfRes (rdN (sd n) (fmL (sd n) c 15) xs 15) = ((l : Int), (m : Int), d, 0) := by
    intro c hc
    have hw : rdN (sd n) (fmL (sd n) c 15) (signN n (fw l m : Nat) bs) 15 = fw l m := by
      rw [rd_of (sd n) (fmL (sd n) c 15) _ (fw l m) 15 (by rw [fmL_len]; exact Nat.le_refl _), Nat.mod_eq_of_lt (fw_lt h1 h2 hm)]
      intro i p hi hp
      rw [fm_get hi] at hp
      obtain rfl := Option.some.inj hp
      exact sign_fm hn hc hi _ bs hl
    refine pf_near h1 h2 hm (rdN_lt _ _ _ 15) ?_
    have := rd_wt (sd n) (fmL (sd n) c 15) xs (signN n (fw l m : Nat) bs) 15
    rw [hw] at this
    rw [this]
    exact h c hc
  obtain ⟨d, hd⟩ := hc 0 (by decide)
  obtain ⟨e, he⟩ := hc 1 (by decide)
  unfold rfRes pick4
  rw [hd, he]
  simp only []
  split <;> rfl
theorem rv_near {n : Nat} (h7 : 7 ≤ n) (h40 : n ≤ 40) (word : Int) (bs xs : List Bool) (hl : bs.length = sd n * sd n)
    (h : ∀ c, c ≤ 1 → dfN (sd n) (vrL (sd n) c 18) xs (signN n word bs) 18 ≤ 3) : rvRes (sd n) xs = ((n : Int), true) := by
  have hv : verRes n = ((cw n 7973 : Int), 0) := verRes_2 (by omega)
  have hc : ∀ c, c ≤ 1 → ∃ d : Int, pvRes (rdN (sd n) (vrL (sd n) c 18) xs 18) = ((n : Int), d, 0) := by
    intro c hc
    have hw : rdN (sd n) (vrL (sd n) c 18) (signN n word bs) 18 = cw n 7973 := by
      rw [rd_of (sd n) (vrL (sd n) c 18) _ (cw n 7973) 18 (by rw [vrL_len]; exact Nat.le_refl _), Nat.mod_eq_of_lt (cw_all ⟨n, by omega⟩)]
      intro i p hi hp
      rw [vr_get hi] at hp
      obtain rfl := Option.some.inj hp
      rw [sign_vr h7 hc hi word bs hl, hv]
    refine pv_near h7 h40 (rdN_lt _ _ _ 18) ?_
    have := rd_wt (sd n) (vrL (sd n) c 18) xs (signN n word bs) 18
    rw [hw] at this
    rw [this]
    exact h c hc
  obtain ⟨d, hd⟩ := hc 0 (by decide)
  obtain ⟨e, he⟩ := hc 1 (by decide)
  unfold rvRes pick3
  rw [hd, he]
  simp only []
  split <;> rfl
/-- What is read where each copy differs in at most three modules from what was signed. -/
theorem rd_near {n l m : Nat} (hn : 1 ≤ n) (h40 : n ≤ 40) (h1 : 1 ≤ l) (h2 : l ≤ 4) (hm : m ≤ 7) (bs xs : List Bool) (hl : bs.length = sd n * sd n)
    (hf : ∀ c, c ≤ 1 → dfN (sd n) (fmL (sd n) c 15) xs (signN n (fw l m : Nat) bs) 15 ≤ 3) (hv : 7 ≤ n → ∀ c, c ≤ 1 → dfN (sd n) (vrL (sd n) c 18) xs (signN n (fw l m : Nat) bs) 18 ≤ 3) :
    rdRes n xs = ((n : Int), (l : Int), (m : Int), 0) := by
  have hr := rf_near hn h1 h2 hm bs xs hl hf
  unfold rdRes
  rw [hr]
  by_cases h7 : 7 ≤ n
  · rw [rv_near h7 h40 _ bs xs hl (hv h7), if_neg (by simp), if_neg (by simp), if_neg (by simp)]
  · rw [if_neg (by simp [h7]), if_neg (by simp [h7]), if_neg (by simp)]
/-- What is read of a signed matrix. -/
theorem rd_sign {n l m : Nat} (hn : 1 ≤ n) (h40 : n ≤ 40) (h1 : 1 ≤ l) (h2 : l ≤ 4) (hm : m ≤ 7) (bs : List Bool) (hl : bs.length = sd n * sd n) : rdRes n (signN n (fw l m : Nat) bs) = ((n : Int), (l : Int), (m : Int), 0) :=
  rd_near hn h40 h1 h2 hm bs _ hl (fun c _ => by rw [df_self]; decide) (fun _ c _ => by rw [df_self]; decide)

end Go.Back
