/-
  What choose chooses is the least of all candidates; the table of plans in memory.
  Conditions stand in each lemma.
-/
import Derived.Test.YthebfpolijajgaaBestD
namespace Go.Proofs.Ythebfpolijajgaa
open Go.RowKit Go.Bs Go.Mode

def md (x : Nat) : Int := if x = 0 then 1 else if x = 1 then 2 else 4
theorem md_ok (x : Nat) : okMode (md x) = true := by unfold md; split <;> (try split) <;> rfl
def topP : Pl := ⟨9223372036854775807, 0, 0, 0⟩
/-- The plan of the rest from a place on. -/
def planAt (k : Nat) (p : List UInt8) (e : Nat) : Pl := plan k (p.drop e)

theorem unit_le (m : Int) : unitN m ≤ 3 := by unfold unitN; split <;> (try split) <;> omega

theorem isCand_iff (k : Nat) (p : List UInt8) (a : Nat) (d : Pl) : IsCand k (p.drop a) d ↔ ∃ x, x < 3 ∧ ∃ j, j < 3 ∧ CandJ (md x) (planAt k p) p k a j d := by
  constructor
  · rintro ⟨m, n, hm, h1, h2, h3, h4, rfl⟩
    have hx : ∃ x, x < 3 ∧ md x = m := by
      rcases okMode_three hm with rfl | rfl | rfl
      · exact ⟨0, by omega, rfl⟩
      · exact ⟨1, by omega, rfl⟩
      · exact ⟨2, by omega, rfl⟩
    obtain ⟨x, hx3, rfl⟩ := hx
    simp at h2
    refine ⟨x, hx3, (a + n) % unitN (md x), by have := Nat.mod_lt (a + n) (y := unitN (md x)) (unit_pos _); have := unit_le (md x); omega, a + n, ⟨by omega, by omega, fun i c e1 e2 e3 => ?_⟩, rfl, by rw [Nat.add_sub_cancel_left]; exact h3, ?_⟩
    · refine h4 c (List.mem_of_getElem? (i := i - a) ?_)
      rw [List.getElem?_take, if_pos (by omega), List.getElem?_drop, ← e3]
      congr 1
      omega
    · rw [Nat.add_sub_cancel_left, List.drop_drop]
      rfl
  · rintro ⟨x, _, j, _, e, ⟨h1, h2, h3⟩, _, h5, rfl⟩
    refine ⟨md x, e - a, md_ok x, by omega, by simp; omega, h5, fun c hc => ?_, ?_⟩
    · obtain ⟨i, hi, rfl⟩ := List.getElem_of_mem hc
      simp at hi
      refine h3 (a + i) _ (by omega) (by omega) ?_
      rw [List.getElem_take, List.getElem_drop, List.getElem?_eq_getElem]
    · unfold planAt
      rw [List.drop_drop]
      congr 3
      omega

theorem Popped.inv {m : Int} {F : Nat → Pl} {p : List UInt8} {lim a j : Nat} {Q Q' : List Nat} (h : QInv m F p lim a j Q) (hp : Popped lim a Q Q') : QInv m F p lim a j Q' := by
  obtain ⟨c, rfl, h1, _⟩ := hp
  exact h.pop c fun x hx hxc => h1 x _ (List.getElem?_eq_getElem hx) hxc
theorem Popped.front {lim a e : Nat} {Q R : List Nat} (hp : Popped lim a Q (e :: R)) : e - a ≤ lim := by
  obtain ⟨c, h0, _, h2⟩ := hp
  refine h2 e ?_
  have : (Q.drop c)[0]? = some e := by rw [← h0]; rfl
  rwa [List.getElem?_drop, Nat.add_zero] at this

theorem picks_least {m : Int} {F : Nat → Pl} {p : List UInt8} {k a : Nat} (hm : okMode m = true) (hk : k ≤ 2) (hb : ∀ e, (F e).bits ≤ 1048576) (hn : p.length ≤ 4096) {Q Q' : Nat → List Nat} (hq : ∀ j, j < 3 → QInv m F p (2 ^ cntB m k - 1) a j (Q j)) (hp : ∀ j, j < 3 → Popped (2 ^ cntB m k - 1) a (Q j) (Q' j))
    {S : Pl → Prop} {b : Pl} (hl : LeastOf S topP b) : ∀ i, i ≤ 3 → LeastOf (fun d => S d ∨ ∃ j, j < i ∧ CandJ m F p k a j d) topP (picks m k a F b Q' i) := by
  intro i
  induction i with
  | zero =>
    intro _
    refine hl.congr fun d => ⟨?_, Or.inl⟩
    rintro (h | ⟨j, hj, _⟩)
    · exact h
    · omega
  | succ i ih =>
    intro hi
    have ih := ih (by omega)
    rw [picks_succ]
    have hinv := Popped.inv (hq i (by omega)) (hp i (by omega))
    have hs : ∀ d, (S d ∨ ∃ j, j < i + 1 ∧ CandJ m F p k a j d) ↔ (S d ∨ ∃ j, j < i ∧ CandJ m F p k a j d) ∨ CandJ m F p k a i d := by
      intro d
      constructor
      · rintro (h | ⟨j, hj, h⟩)
        · exact Or.inl (Or.inl h)
        · by_cases e : j = i
          · subst e; exact Or.inr h
          · exact Or.inl (Or.inr ⟨j, by omega, h⟩)
      · rintro ((h | ⟨j, hj, h⟩) | h)
        · exact Or.inl h
        · exact Or.inr ⟨j, by omega, h⟩
        · exact Or.inr ⟨i, by omega, h⟩
    have hpi := hp i (by omega)
    generalize Q' i = R at hinv hpi
    cases R with
    | nil =>
      refine ih.congr fun d => ?_
      rw [hs d]
      exact ⟨fun h => h.elim id (fun h => absurd h (hinv.none d)), Or.inl⟩
    | cons e R =>
      obtain ⟨c1, c2⟩ := hinv.front hm hpi.front
      have he := (hinv.mem e (by simp)).1
      have htop : (candP m k (e - a) (F e)).lt topP := by
        have h1 := hb e
        have h2 := cnt_le m k hk
        have h3 : dsize m (e - a) ≤ 100000 := by
          have := he.2.1
          unfold dsize
          split
          · split <;> (try split) <;> omega
          · split <;> omega
        left
        simp only [candP, segB, topP]
        omega
      show LeastOf _ topP (if (candP m k (e - a) (F e)).lt (picks m k a F b Q' i) then _ else _)
      split
      · rename_i hlt
        exact ih.take hs c1 c2 (Or.inl hlt)
      · rename_i hlt
        refine ih.keep hs c2 ?_ hlt
        rcases ih with ⟨h1, _⟩ | ⟨h1, _⟩
        · rw [h1] at hlt
          exact absurd htop hlt
        · exact h1

/-- The table of plans: from a place on the plans, before it zeros. -/
structure Tab (w : World) (gp n a : Nat) (F : Nat → Pl) : Prop where
  blk : ∃ cs, w.heap[gp]? = some (.cells cs 95 (0, 0))
  at_ : ∀ e, e < n + 1 → PlanAt w gp e (if a ≤ e then F e else zeroP)
theorem Tab.kept {w w2 : World} {gp n a : Nat} {F : Nat → Pl} (x : Tab w gp n a F) (h : w2.heap[gp]? = w.heap[gp]?) : Tab w2 gp n a F := by
  obtain ⟨cs, hcs⟩ := x.blk
  exact ⟨⟨cs, h.trans hcs⟩, fun e he => (x.at_ e he).kept h⟩
theorem Tab.plans {w : World} {gp n a : Nat} {F : Nat → Pl} (x : Tab w gp n a F) (hb : ∀ e, (F e).bits ≤ 1048576 ∧ (F e).seg ≤ 4096) : Plans w gp (n + 1) a F :=
  ⟨fun e h1 h2 => by have := x.at_ e h2; rwa [if_pos h1] at this, fun e => (hb e).1, fun e => (hb e).2⟩
theorem Tab.lt {w : World} {gp n a : Nat} {F : Nat → Pl} (x : Tab w gp n a F) : gp < w.heap.size := by
  obtain ⟨cs, hcs⟩ := x.blk
  exact (Array.getElem?_eq_some_iff.1 hcs).1
/-- A plan is stored. -/
theorem Tab.store {w : World} {gp n a : Nat} {F : Nat → Pl} (x : Tab w gp n (a + 1) F) (ha : a < n + 1) :
    Tab ((((w.setCell ⟨gp, a * 4, none⟩ (.int .i64 (F a).bits)).setCell ⟨gp, a * 4 + 1, none⟩ (.int .i64 (F a).seg)).setCell ⟨gp, a * 4 + 2, none⟩ (.int .i64 (F a).len)).setCell ⟨gp, a * 4 + 3, none⟩ (.int .i64 (F a).mode)) gp n a F := by
  obtain ⟨cs, hcs⟩ := x.blk
  have h4 := heap_setCell_same _ _ (a * 4 + 3) (.int .i64 (F a).mode) _ _ _ (heap_setCell_same _ _ (a * 4 + 2) (.int .i64 (F a).len) _ _ _ (heap_setCell_same _ _ (a * 4 + 1) (.int .i64 (F a).seg) _ _ _ (heap_setCell_same _ _ (a * 4) (.int .i64 (F a).bits) _ _ _ hcs)))
  have hold : ∀ e i v, w.cell? ⟨gp, e * 4 + i, none⟩ = some v → cs[e * 4 + i]? = some v := by
    intro e i v hv
    rwa [cell_of_row w gp _ _ _ _ hcs] at hv
  refine ⟨⟨_, h4⟩, fun e he => ?_⟩
  have hx := x.at_ e he
  have hx4 := hold e 3 _ hx.c3
  have hsz := (Array.getElem?_eq_some_iff.1 hx4).1
  have hxa := x.at_ a ha
  have hsa := (Array.getElem?_eq_some_iff.1 (hold a 3 _ hxa.c3)).1
  by_cases hea : e = a
  · subst hea
    rw [if_pos (Nat.le_refl _)]
    refine ⟨?_, ?_, ?_, ?_⟩ <;> (rw [cell_of_row _ gp _ _ _ _ h4]; simp [Array.getElem?_setIfInBounds]; omega)
  · have hif : (if a ≤ e then F e else zeroP) = if a + 1 ≤ e then F e else zeroP := by
      by_cases h : a ≤ e
      · rw [if_pos h, if_pos (by omega)]
      · rw [if_neg h, if_neg (by omega)]
    rw [hif]
    refine ⟨?_, ?_, ?_, ?_⟩
    · rw [cell_of_row _ gp _ _ _ _ h4, Array.getElem?_setIfInBounds_ne (by omega), Array.getElem?_setIfInBounds_ne (by omega), Array.getElem?_setIfInBounds_ne (by omega), Array.getElem?_setIfInBounds_ne (by omega)]
      exact hold e 0 _ hx.c0
    · rw [cell_of_row _ gp _ _ _ _ h4, Array.getElem?_setIfInBounds_ne (by omega), Array.getElem?_setIfInBounds_ne (by omega), Array.getElem?_setIfInBounds_ne (by omega), Array.getElem?_setIfInBounds_ne (by omega)]
      exact hold e 1 _ hx.c1
    · rw [cell_of_row _ gp _ _ _ _ h4, Array.getElem?_setIfInBounds_ne (by omega), Array.getElem?_setIfInBounds_ne (by omega), Array.getElem?_setIfInBounds_ne (by omega), Array.getElem?_setIfInBounds_ne (by omega)]
      exact hold e 2 _ hx.c2
    · rw [cell_of_row _ gp _ _ _ _ h4, Array.getElem?_setIfInBounds_ne (by omega), Array.getElem?_setIfInBounds_ne (by omega), Array.getElem?_setIfInBounds_ne (by omega), Array.getElem?_setIfInBounds_ne (by omega)]
      exact hx4

theorem planAt_bd (k : Nat) (p : List UInt8) (hn : p.length ≤ 4096) (e : Nat) : (planAt k p e).bits ≤ 114688 ∧ (planAt k p e).seg ≤ 4096 := by
  have := plan_bd k (p.drop e).length (p.drop e) rfl
  unfold planAt
  simp at this
  omega

end Go.Proofs.Ythebfpolijajgaa
