/-
  Plain: the queues of ends of a mode keep the best end of each remainder.
  No program; conditions stand in each lemma.
-/
import Derived.Test.YthebfpolijajgaaBestPlain
namespace Go.Mode
open Go Go.Bs

def fullN (m : Int) : Nat := if m = 1 then 10 else if m = 2 then 11 else 8
/-- A segment that ends at a is worse than one that ends at b. -/
def gtW (m : Int) (F : Nat → Pl) (a b : Nat) : Prop :=
  fullN m * (b / unitN m) + (F b).bits < fullN m * (a / unitN m) + (F a).bits ∨ (fullN m * (a / unitN m) + (F a).bits = fullN m * (b / unitN m) + (F b).bits ∧ (F b).seg < (F a).seg)
instance (m : Int) (F : Nat → Pl) (a b : Nat) : Decidable (gtW m F a b) := by unfold gtW; infer_instance

/-- An end of a segment that begins at a place. -/
def IsEnd (m : Int) (p : List UInt8) (at_ e : Nat) : Prop := at_ < e ∧ e ≤ p.length ∧ ∀ i c, at_ ≤ i → i < e → p[i]? = some c → fitsB m c = true

structure QInv (m : Int) (F : Nat → Pl) (p : List UInt8) (lim at_ j : Nat) (Q : List Nat) : Prop where
  sorted : ∀ (i i' : Nat) (h' : i' < Q.length) (h : i < i'), Q[i'] < Q[i]'(by omega) ∧ ¬ gtW m F (Q[i]'(by omega)) Q[i']
  mem : ∀ e ∈ Q, IsEnd m p at_ e ∧ e % unitN m = j
  complete : ∀ e, IsEnd m p at_ e → e % unitN m = j → e - at_ ≤ lim → ∃ e' ∈ Q, e' ≤ e ∧ (e' = e ∨ gtW m F e e')

theorem QInv.start (m : Int) (F : Nat → Pl) (p : List UInt8) (lim j : Nat) : QInv m F p lim p.length j [] :=
  ⟨fun i i' h' _ => by simp at h', fun e h => by simp at h, fun e h _ _ => by have := h.1; have := h.2.1; omega⟩
theorem QInv.clear (m : Int) (F : Nat → Pl) (p : List UInt8) (lim at_ j : Nat) (h : at_ < p.length) (hf : fitsB m p[at_] = false) : QInv m F p lim at_ j [] :=
  ⟨fun i i' h' _ => by simp at h', fun e h => by simp at h, fun e h1 _ _ => by have := h1.2.2 at_ p[at_] (Nat.le_refl _) h1.1 (List.getElem?_eq_getElem h); rw [hf] at this; cases this⟩
theorem IsEnd.back {m : Int} {p : List UInt8} {at_ e : Nat} (h : IsEnd m p (at_ + 1) e) (ha : at_ < p.length) (hf : fitsB m p[at_] = true) : IsEnd m p at_ e := by
  refine ⟨by have := h.1; omega, h.2.1, fun i c h1 h2 h3 => ?_⟩
  by_cases hi : i = at_
  · subst hi
    rw [List.getElem?_eq_getElem ha] at h3
    cases h3
    exact hf
  · exact h.2.2 i c (by omega) h2 h3
theorem IsEnd.next {m : Int} {p : List UInt8} {at_ e : Nat} (h : IsEnd m p at_ e) (hne : e ≠ at_ + 1) : IsEnd m p (at_ + 1) e :=
  ⟨by have := h.1; omega, h.2.1, fun i c h1 h2 h3 => h.2.2 i c (by omega) h2 h3⟩
/-- A queue of another remainder. -/
theorem QInv.other {m : Int} {F : Nat → Pl} {p : List UInt8} {lim at_ j : Nat} {Q : List Nat} (h : QInv m F p lim (at_ + 1) j Q) (ha : at_ < p.length) (hf : fitsB m p[at_] = true) (hj : (at_ + 1) % unitN m ≠ j) : QInv m F p lim at_ j Q :=
  ⟨h.sorted, fun e he => ⟨(h.mem e he).1.back ha hf, (h.mem e he).2⟩, fun e h1 h2 h3 => h.complete e (h1.next (fun e' => hj (by rw [← e', h2]))) h2 (by omega)⟩
theorem gtW_trans {m : Int} {F : Nat → Pl} {a b c : Nat} (h : gtW m F a b) (h' : gtW m F b c) : gtW m F a c := by unfold gtW at *; omega
theorem ngtW_trans {m : Int} {F : Nat → Pl} {a b c : Nat} (h : ¬ gtW m F a b) (h' : ¬ gtW m F b c) : ¬ gtW m F a c := by unfold gtW at *; omega
/-- An end is added; worse ones at the back are taken away. -/
theorem QInv.push {m : Int} {F : Nat → Pl} {p : List UInt8} {lim at_ j : Nat} {Q : List Nat} (h : QInv m F p lim (at_ + 1) j Q) (ha : at_ < p.length) (hf : fitsB m p[at_] = true) (hj : (at_ + 1) % unitN m = j)
    (i : Nat) (hi : i ≤ Q.length) (hgone : ∀ x (hx : x < Q.length), i ≤ x → gtW m F Q[x] (at_ + 1)) (hlast : ∀ h0 : 0 < i, ¬ gtW m F (Q[i - 1]'(by omega)) (at_ + 1)) : QInv m F p lim at_ j (Q.take i ++ [at_ + 1]) := by
  have hlen : (Q.take i).length = i := by simp; omega
  refine ⟨fun x y hy hxy => ?_, fun e he => ?_, fun e h1 h2 h3 => ?_⟩
  · rw [List.length_append, hlen, List.length_singleton] at hy
    have hxi : x < i := by omega
    have e1 : (Q.take i ++ [at_ + 1])[x]'(by rw [List.length_append, hlen, List.length_singleton]; omega) = Q[x]'(by omega) := by
      rw [List.getElem_append_left (by rw [hlen]; omega)]; simp
    rw [e1]
    by_cases hyi : y < i
    · have e2 : (Q.take i ++ [at_ + 1])[y]'(by rw [List.length_append, hlen, List.length_singleton]; omega) = Q[y]'(by omega) := by
        rw [List.getElem_append_left (by rw [hlen]; omega)]; simp
      rw [e2]
      exact h.sorted x y (by omega) hxy
    · have e2 : (Q.take i ++ [at_ + 1])[y]'(by rw [List.length_append, hlen, List.length_singleton]; omega) = at_ + 1 := by
        rw [List.getElem_append_right (by rw [hlen]; omega)]; simp
      rw [e2]
      refine ⟨(h.mem _ (List.getElem_mem (by omega))).1.1, ?_⟩
      have hl := hlast (by omega)
      by_cases hx : x = i - 1
      · subst hx; exact hl
      · exact ngtW_trans (h.sorted x (i - 1) (by omega) (by omega)).2 hl
  · rcases List.mem_append.1 he with he | he
    · have := List.mem_of_mem_take he
      exact ⟨(h.mem e this).1.back ha hf, (h.mem e this).2⟩
    · simp at he
      subst he
      refine ⟨⟨by omega, by omega, fun i' c h1 h2 h3 => ?_⟩, hj⟩
      obtain rfl : i' = at_ := by omega
      rw [List.getElem?_eq_getElem ha] at h3
      cases h3
      exact hf
  · by_cases hne : e = at_ + 1
    · exact ⟨at_ + 1, by simp, by omega, Or.inl hne.symm⟩
    · obtain ⟨e', he', hle, hc⟩ := h.complete e (h1.next hne) h2 (by omega)
      obtain ⟨x, hx, rfl⟩ := List.getElem_of_mem he'
      by_cases hxi : x < i
      · refine ⟨Q[x], ?_, hle, hc⟩
        rw [List.mem_append]
        exact Or.inl (List.mem_take_iff_getElem.2 ⟨x, by omega, rfl⟩)
      · have hg := hgone x hx (by omega)
        refine ⟨at_ + 1, by simp, by have := h1.1; omega, Or.inr ?_⟩
        rcases hc with hc | hc
        · rw [← hc]; exact hg
        · exact gtW_trans hc hg
/-- Ends that are too far away are taken from the front. -/
theorem QInv.pop {m : Int} {F : Nat → Pl} {p : List UInt8} {lim at_ j : Nat} {Q : List Nat} (h : QInv m F p lim at_ j Q) (i : Nat) (hfar : ∀ x (hx : x < Q.length), x < i → lim < Q[x] - at_) : QInv m F p lim at_ j (Q.drop i) := by
  refine ⟨fun x y hy hxy => ?_, fun e he => h.mem e (List.mem_of_mem_drop he), fun e h1 h2 h3 => ?_⟩
  · rw [List.length_drop] at hy
    have := h.sorted (i + x) (i + y) (by omega) (by omega)
    simpa using this
  · obtain ⟨e', he', hle, hc⟩ := h.complete e h1 h2 h3
    obtain ⟨x, hx, rfl⟩ := List.getElem_of_mem he'
    refine ⟨Q[x], ?_, hle, hc⟩
    have : ¬ x < i := fun hxi => by have := hfar x hx hxi; omega
    exact List.mem_drop_iff_getElem.2 ⟨x - i, by omega, by congr 1; omega⟩

/-- The candidates of a mode and a remainder. -/
def CandJ (m : Int) (F : Nat → Pl) (p : List UInt8) (k at_ j : Nat) (d : Pl) : Prop := ∃ e, IsEnd m p at_ e ∧ e % unitN m = j ∧ e - at_ < 2 ^ cntB m k ∧ d = candP m k (e - at_) (F e)

theorem QInv.none {m : Int} {F : Nat → Pl} {p : List UInt8} {k at_ j : Nat} (h : QInv m F p (2 ^ cntB m k - 1) at_ j []) (d : Pl) : ¬ CandJ m F p k at_ j d := by
  rintro ⟨e, h1, h2, h3, _⟩
  obtain ⟨e', he', _⟩ := h.complete e h1 h2 (by omega)
  cases he'

theorem dsize_same (m : Int) (hm : okMode m = true) (a e e0 : Nat) (h : a < e) (h0 : a < e0) (hj : e % unitN m = e0 % unitN m) : dsize m (e - a) + fullN m * (e0 / unitN m) = dsize m (e0 - a) + fullN m * (e / unitN m) := by
  rcases okMode_three hm with rfl | rfl | rfl
  · simp [dsize, fullN, unitN] at *
    have : (e - a) % 3 = (e0 - a) % 3 := by omega
    rw [this]
    omega
  · simp [dsize, fullN, unitN] at *
    omega
  · simp [dsize, fullN, unitN] at *
    omega

theorem QInv.front {m : Int} {F : Nat → Pl} {p : List UInt8} {k at_ j e0 : Nat} {Q : List Nat} (hm : okMode m = true) (h : QInv m F p (2 ^ cntB m k - 1) at_ j (e0 :: Q)) (hlim : e0 - at_ ≤ 2 ^ cntB m k - 1) :
    CandJ m F p k at_ j (candP m k (e0 - at_) (F e0)) ∧ ∀ d, CandJ m F p k at_ j d → ¬ d.lt (candP m k (e0 - at_) (F e0)) := by
  have hp := pow_cnt m k
  have h0 := h.mem e0 (by simp)
  refine ⟨⟨e0, h0.1, h0.2, by omega, rfl⟩, ?_⟩
  rintro d ⟨e, h1, h2, h3, rfl⟩
  obtain ⟨e', he', hle, hc⟩ := h.complete e h1 h2 (by omega)
  have hs := dsize_same m hm at_ e e0 h1.1 h0.1.1 (by rw [h2, h0.2])
  have hfe : e' ≤ e0 ∧ ¬ gtW m F e0 e' := by
    obtain ⟨x, hx, rfl⟩ := List.getElem_of_mem he'
    cases x with
    | zero =>
      refine ⟨Nat.le_refl _, ?_⟩
      simp only [List.getElem_cons_zero]
      unfold gtW
      omega
    | succ x =>
      have := h.sorted 0 (x + 1) hx (by omega)
      simp only [List.getElem_cons_zero] at this
      exact ⟨Nat.le_of_lt this.1, this.2⟩
  have hle0 : at_ < e0 := h0.1.1
  have hlee : at_ < e := h1.1
  obtain ⟨hf1, hf2⟩ := hfe
  unfold gtW at hc hf2
  simp only [Pl.lt, candP, segB]
  rcases hc with rfl | hc
  · omega
  · omega

end Go.Mode
