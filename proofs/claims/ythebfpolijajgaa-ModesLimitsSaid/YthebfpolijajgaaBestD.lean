/-
  The contract of modes.newWindow.
  Conditions: the mode is one of the three; small numbers.
What choose chooses is the least of all candidates; the table of plans in memory.
  Conditions stand in each lemma.
-/
import Derived.Test.YthebfpolijajgaaBestC
namespace Go.Proofs.Ythebfpolijajgaa
open Go.RowKit Go.Bs Go.Mode

def NewPost (w : World) (m : Int) (k n : Nat) (e : Ending) (w' : World) : Prop :=
  ∃ g h, e = .returned (.pointer (some ⟨g, 0, none⟩)) ∧ WinE w' g h m k n n (fun _ => []) ∧ Ext w w' ∧ w.heap.size ≤ g ∧ w.heap.size ≤ h

set_option maxRecDepth 20000 in
set_option maxHeartbeats 3200000 in
theorem newWindow_any (m : Int) (k n : Nat) (w : World) (hm : okMode m = true) (hk : k ≤ 2) (hn : n ≤ 4096) :
    Calls Try.prog 60 #[.int .i64 m, .int .i64 k, .int .i64 n] w (NewPost w m k n) := by
  have hcb := cnt_le m k hk
  have hcp := cnt_pos m k
  have HM := Lib.hid hm
  have HC : Hid (ctRes m k = (((cntB m k : Nat) : Int), 0)) := by
    refine Lib.hid ?_
    unfold ctRes
    rw [if_neg (by rw [hm]; simp; omega)]
    simp
  clear hm
  obtain ⟨B, hB⟩ : ∃ B, B = cntB m k := ⟨_, rfl⟩
  rw [← hB] at hcb hcp HC
  have HB := Lib.hid hB
  clear hB
  obtain ⟨p, hp⟩ : ∃ p, p = 2 ^ B := ⟨_, rfl⟩
  have hw2 : IntKind.i64.wrap ((2 : Int) ^ B) = (p : Int) := by
    rw [hp, IntWalk.i64_in _ (by have := pow_le61 B (by omega); have : (0 : Int) < 2 ^ B := Int.pow_pos (by decide); omega)]
    rw [Int.natCast_pow]
    rfl
  have hpb : 256 ≤ p ∧ p ≤ 65536 := by
    rw [hp]
    exact ⟨Nat.pow_le_pow_right (n := 2) (by decide) hcp, Nat.pow_le_pow_right (n := 2) (by decide) hcb⟩
  have HPP := Lib.hid hp
  clear hp
  have s1 : IntKind.i64.wrap (4 + (B : Int)) = ((4 + B : Nat) : Int) := by rw [IntWalk.i64_in _ (by omega)]; omega
  have s2 : IntKind.i64.wrap ((p : Int) - 1) = ((p - 1 : Nat) : Int) := by rw [IntWalk.i64_in _ (by omega)]; omega
  go_enter Try.func60, Try.ntmps60
  go_wp2_with fail
  refine (countBits_any _ _ _).mono ?_
  rw [HC.out]
  rintro e w' ⟨rfl, rfl⟩
  simp only [two]
  go_upto_region 2 with fail
  go_region_with (go_at_call 48; refine (packed_any m _ HM.out).mono ?_; rw [packA_eq]; rintro e w3 ⟨rfl, hx3⟩)
  go_upto_region 3 with fail
  obtain ⟨g, hg⟩ : ∃ g, g = w3.heap.size := ⟨_, rfl⟩
  rw [← hg]
  generalize hw4 : World.alloc w3 _ = w4
  have HG4 : Hid (w4.heap[g]? = some (.cells (winC m k (fun _ => .slice none 0 0)) 98 (0, 0))) := by
    refine Lib.hid ?_
    rw [hg, ← hw4, heap_alloc_new]
    unfold winC
    rw [← HB.out, ← HPP.out]
    simp
    done
  have hx4 : Ext w w4 := by rw [← hw4]; exact ((Ext.drew _).trans hx3).trans (Ext.alloc _ _)
  have hgb : w.heap.size ≤ g := by rw [hg]; exact ((Ext.drew _).trans hx3).size
  clear hw4 hg s1 s2 hw2 hx3 hpb
  go_wp2_with (at_make; refine wpList_make (ws := w) rfl _ _ 63 rfl w.heap.size 3 (.int .i64 0) 8 Try.infoInt rfl Try.underlying63 _ _ _ _ rfl rfl (3 * n) (3 * n) (by omega) (by omega) (Nat.le_refl _) (by omega) (by omega) hx4 hx4.size ?_; intro w5 hown5 hbel5 hg5)
  obtain ⟨h, hh⟩ : ∃ h, h = w4.heap.size := ⟨_, rfl⟩
  rw [← hh] at hown5 ⊢
  have HH5 : Hid (w5.heap[h]? = some (.cells (List.replicate (3 * n) (Value.int .i64 0)).toArray 3 (0, 0))) := by
    refine Lib.hid ?_
    rcases hown5.2 with ⟨hv, _⟩ | ⟨g', cap', cur, hv, hb', hg', hnc, hcm, hcs, htake⟩
    · cases hv
    · simp only [Value.slice.injEq, Option.some.injEq, Addr.mk.injEq, and_true, true_and] at hv
      obtain ⟨rfl, rfl⟩ := hv
      rw [hg', ← htake, List.take_of_length_le (by simp; omega)]
  have HG5 : Hid (w5.heap[g]? = some (.cells (winC m k (fun _ => .slice none 0 0)) 98 (0, 0))) := by
    refine Lib.hid ?_
    rw [hg5.block g (Array.getElem?_eq_some_iff.1 HG4.out).1 (by simp)]
    exact HG4.out
  have hne : g ≠ h := by rw [hh]; have := (Array.getElem?_eq_some_iff.1 HG4.out).1; omega
  have hhb : w.heap.size ≤ h := by rw [hh]; exact hx4.size
  have HBEL := Lib.hid hbel5
  clear hown5 hg5 hbel5 hh HG4 hx4
  go_loopw [11, 31] (fun _ i wr => ∃ j : Nat, j ≤ 3 ∧ i = .int .i64 j ∧ ∃ qv, Hid (wr.heap[g]? = some (.cells (winC m k qv) 98 (0, 0))) ∧ Hid (wr.heap[h]? = some (.cells (List.replicate (3 * n) (Value.int .i64 0)).toArray 3 (0, 0))) ∧ Hid (∀ i, i < j → QOk h n n (List.replicate (3 * n) (Value.int .i64 0)) i (qv i) []) ∧ Hid (Below w.heap.size w wr)) (fun _ i _ => 3 - (intOf i).toNat)
  case atStart => exact ⟨0, by omega, rfl, _, HG5, HH5, Lib.hid (fun i hi => absurd hi (by omega)), HBEL⟩
  case round =>
    clear HG5 HH5 HBEL
    obtain ⟨j, hj, rfl, qv, HG5, HH5, HQ, HBEL⟩ := hrel
    by_cases hlt : j < 3
    · have z : wr.cell? ⟨g, 9 + j, none⟩ = some (qv j) := by
        rw [cell_of_row wr g (9 + j) _ _ _ HG5.out]
        exact winC_at m k qv j hlt
      have zf : wr.frozen? ⟨g, 9 + j, none⟩ = false := by simp [World.frozen?, HG5.out]
      have hji : (j : Int) < 3 := by omega
      have hjn : j * n ≤ 2 * n := Nat.mul_le_mul_right n (by omega)
      obtain ⟨A, hA⟩ : ∃ A, A = j * n := ⟨_, rfl⟩
      have hA1 : (j : Int) * (n : Int) = (A : Int) := by rw [hA]; rfl
      have hA2 : ((j : Int) + 1) * (n : Int) = ((A + n : Nat) : Int) := by rw [Int.add_mul, hA1]; omega
      rw [← hA] at hjn
      have HA := Lib.hid hA
      clear hA
      go_wp2_with fail
      go_region
      go_wp2_with fail
      obtain ⟨o2, ho2⟩ : ∃ o2, o2 = if n = 0 then 0 else A := ⟨_, rfl⟩
      have hos : (if n = 0 then some (⟨h, 0, none⟩ : Addr) else some ⟨h, A, none⟩) = some ⟨h, o2, none⟩ := by rw [ho2]; split <;> rfl
      rw [hos]
      refine ⟨⟨j + 1, by omega, by rw [Int.natCast_succ], upd qv j (.slice (some ⟨h, o2, none⟩) 0 n), Lib.hid ?_, Lib.hid ?_, Lib.hid (fun i hi => ?_), Lib.hid ((HBEL.out.setCell hgb _).drew)⟩, by simp [intOf]; omega⟩
      · show (wr.setCell ⟨g, 9 + j, none⟩ (.slice (some ⟨h, o2, none⟩) 0 n)).heap[g]? = _
        rw [heap_setCell_same _ g (9 + j) _ _ _ _ HG5.out, winC_set m k qv j hlt]
      · show (wr.setCell ⟨g, 9 + j, none⟩ (.slice (some ⟨h, o2, none⟩) 0 n)).heap[h]? = _
        rw [heap_setCell_other _ g _ _ _ (fun e => hne e.symm)]
        exact HH5.out
      · unfold upd
        by_cases e : i = j
        · subst e
          rw [if_pos rfl]
          have e1 : (i + 1) * n = i * n + n := Nat.succ_mul i n
          have e2 := HA.out
          refine ⟨o2, n, rfl, ?_, ?_, by simp, Nat.le_refl _, fun x y hx => by simp at hx⟩
          · rw [ho2]
            split
            · rename_i h0
              rw [h0]
              simp
            · omega
          · rw [ho2]
            split
            · rename_i h0
              rw [h0]
              simp
            · omega
        · rw [if_neg e]
          exact HQ.out i (by omega)
    · obtain rfl : j = 3 := by omega
      go_wp2_with fail
      go_ret
      refine ⟨g, h, rfl, ⟨qv, _, ⟨hne, HG5.out, HH5.out, by simp, fun i hi => HQ.out i hi⟩⟩, HBEL.out, hgb, hhb⟩


def md (x : Nat) : Int := if x = 0 then 1 else if x = 1 then 2 else 4
theorem md_ok (x : Nat) : okMode (md x) = true := by unfold md; split <;> (try split) <;> rfl
def topP : Pl := ⟨9223372036854775807, 0, 0, 0⟩
/-- The plan of the rest from a place on. -/
def planAt (k : Nat) (p : List UInt8) (e : Nat) : Pl := plan k (p.drop e)

theorem unit_le (m : Int) : unitN m ≤ 3 := by unfold unitN; split <;> (try split) <;> omega

theorem isCand_iff (k : Nat) (p : List UInt8) (a : Nat) (d : Pl) : IsCand k (p.drop a) d ↔ ∃ x, x < 3 ∧ ∃ j, j < 3 ∧ CandJ (md x) (planAt k p) p k a j d := by
  constructor
  · rintro ⟨m, n, hm, h1, h2, h3, h4, rfl⟩
    have hx : ∃ x, x < 3 ∧ md x = m := by
      rcases okMode_three hm with rfl | rfl | rfl
      · exact ⟨0, by omega, rfl⟩
      · exact ⟨1, by omega, rfl⟩
      · exact ⟨2, by omega, rfl⟩
    obtain ⟨x, hx3, rfl⟩ := hx
    simp at h2
    refine ⟨x, hx3, (a + n) % unitN (md x), by have := Nat.mod_lt (a + n) (y := unitN (md x)) (unit_pos _); have := unit_le (md x); omega, a + n, ⟨by omega, by omega, fun i c e1 e2 e3 => ?_⟩, rfl, by rw [Nat.add_sub_cancel_left]; exact h3, ?_⟩
    · refine h4 c (List.mem_of_getElem? (i := i - a) ?_)
      rw [List.getElem?_take, if_pos (by omega), List.getElem?_drop, ← e3]
      congr 1
      omega
    · rw [Nat.add_sub_cancel_left, List.drop_drop]
      rfl
  · rintro ⟨x, _, j, _, e, ⟨h1, h2, h3⟩, _, h5, rfl⟩
    refine ⟨md x, e - a, md_ok x, by omega, by simp; omega, h5, fun c hc => ?_, ?_⟩
    · obtain ⟨i, hi, rfl⟩ := List.getElem_of_mem hc
      simp at hi
      refine h3 (a + i) _ (by omega) (by omega) ?_
      rw [List.getElem_take, List.getElem_drop, List.getElem?_eq_getElem]
    · unfold planAt
      rw [List.drop_drop]
      congr 3
      omega

theorem Popped.inv {m : Int} {F : Nat → Pl} {p : List UInt8} {lim a j : Nat} {Q Q' : List Nat} (h : QInv m F p lim a j Q) (hp : Popped lim a Q Q') : QInv m F p lim a j Q' := by
  obtain ⟨c, rfl, h1, _⟩ := hp
  exact h.pop c fun x hx hxc => h1 x _ (List.getElem?_eq_getElem hx) hxc
theorem Popped.front {lim a e : Nat} {Q R : List Nat} (hp : Popped lim a Q (e :: R)) : e - a ≤ lim := by
  obtain ⟨c, h0, _, h2⟩ := hp
  refine h2 e ?_
  have : (Q.drop c)[0]? = some e := by rw [← h0]; rfl
  rwa [List.getElem?_drop, Nat.add_zero] at this

theorem picks_least {m : Int} {F : Nat → Pl} {p : List UInt8} {k a : Nat} (hm : okMode m = true) (hk : k ≤ 2) (hb : ∀ e, (F e).bits ≤ 1048576) (hn : p.length ≤ 4096) {Q Q' : Nat → List Nat} (hq : ∀ j, j < 3 → QInv m F p (2 ^ cntB m k - 1) a j (Q j)) (hp : ∀ j, j < 3 → Popped (2 ^ cntB m k - 1) a (Q j) (Q' j))
    {S : Pl → Prop} {b : Pl} (hl : LeastOf S topP b) : ∀ i, i ≤ 3 → LeastOf (fun d => S d ∨ ∃ j, j < i ∧ CandJ m F p k a j d) topP (picks m k a F b Q' i) := by
  intro i
  induction i with
  | zero =>
    intro _
    refine hl.congr fun d => ⟨?_, Or.inl⟩
    rintro (h | ⟨j, hj, _⟩)
    · exact h
    · omega
  | succ i ih =>
    intro hi
    have ih := ih (by omega)
    rw [picks_succ]
    have hinv := Popped.inv (hq i (by omega)) (hp i (by omega))
    have hs : ∀ d, (S d ∨ ∃ j, j < i + 1 ∧ CandJ m F p k a j d) ↔ (S d ∨ ∃ j, j < i ∧ CandJ m F p k a j d) ∨ CandJ m F p k a i d := by
      intro d
      constructor
      · rintro (h | ⟨j, hj, h⟩)
        · exact Or.inl (Or.inl h)
        · by_cases e : j = i
          · subst e; exact Or.inr h
          · exact Or.inl (Or.inr ⟨j, by omega, h⟩)
      · rintro ((h | ⟨j, hj, h⟩) | h)
        · exact Or.inl h
        · exact Or.inr ⟨j, by omega, h⟩
        · exact Or.inr ⟨i, by omega, h⟩
    have hpi := hp i (by omega)
    generalize Q' i = R at hinv hpi
    cases R with
    | nil =>
      refine ih.congr fun d => ?_
      rw [hs d]
      exact ⟨fun h => h.elim id (fun h => absurd h (hinv.none d)), Or.inl⟩
    | cons e R =>
      obtain ⟨c1, c2⟩ := hinv.front hm hpi.front
      have he := (hinv.mem e (by simp)).1
      have htop : (candP m k (e - a) (F e)).lt topP := by
        have h1 := hb e
        have h2 := cnt_le m k hk
        have h3 : dsize m (e - a) ≤ 100000 := by
          have := he.2.1
          unfold dsize
          split
          · split <;> (try split) <;> omega
          · split <;> omega
        left
        simp only [candP, segB, topP]
        omega
      show LeastOf _ topP (if (candP m k (e - a) (F e)).lt (picks m k a F b Q' i) then _ else _)
      split
      · rename_i hlt
        exact ih.take hs c1 c2 (Or.inl hlt)
      · rename_i hlt
        refine ih.keep hs c2 ?_ hlt
        rcases ih with ⟨h1, _⟩ | ⟨h1, _⟩
        · rw [h1] at hlt
          exact absurd htop hlt
        · exact h1

/-- The table of plans: from a place on the plans, before it zeros. -/
structure Tab (w : World) (gp n a : Nat) (F : Nat → Pl) : Prop where
  blk : ∃ cs, w.heap[gp]? = some (.cells cs 95 (0, 0))
  at_ : ∀ e, e < n + 1 → PlanAt w gp e (if a ≤ e then F e else zeroP)
theorem Tab.kept {w w2 : World} {gp n a : Nat} {F : Nat → Pl} (x : Tab w gp n a F) (h : w2.heap[gp]? = w.heap[gp]?) : Tab w2 gp n a F := by
  obtain ⟨cs, hcs⟩ := x.blk
  exact ⟨⟨cs, h.trans hcs⟩, fun e he => (x.at_ e he).kept h⟩
theorem Tab.plans {w : World} {gp n a : Nat} {F : Nat → Pl} (x : Tab w gp n a F) (hb : ∀ e, (F e).bits ≤ 1048576 ∧ (F e).seg ≤ 4096) : Plans w gp (n + 1) a F :=
  ⟨fun e h1 h2 => by have := x.at_ e h2; rwa [if_pos h1] at this, fun e => (hb e).1, fun e => (hb e).2⟩
theorem Tab.lt {w : World} {gp n a : Nat} {F : Nat → Pl} (x : Tab w gp n a F) : gp < w.heap.size := by
  obtain ⟨cs, hcs⟩ := x.blk
  exact (Array.getElem?_eq_some_iff.1 hcs).1
/-- A plan is stored. -/
theorem Tab.store {w : World} {gp n a : Nat} {F : Nat → Pl} (x : Tab w gp n (a + 1) F) (ha : a < n + 1) :
    Tab ((((w.setCell ⟨gp, a * 4, none⟩ (.int .i64 (F a).bits)).setCell ⟨gp, a * 4 + 1, none⟩ (.int .i64 (F a).seg)).setCell ⟨gp, a * 4 + 2, none⟩ (.int .i64 (F a).len)).setCell ⟨gp, a * 4 + 3, none⟩ (.int .i64 (F a).mode)) gp n a F := by
  obtain ⟨cs, hcs⟩ := x.blk
  have h4 := heap_setCell_same _ _ (a * 4 + 3) (.int .i64 (F a).mode) _ _ _ (heap_setCell_same _ _ (a * 4 + 2) (.int .i64 (F a).len) _ _ _ (heap_setCell_same _ _ (a * 4 + 1) (.int .i64 (F a).seg) _ _ _ (heap_setCell_same _ _ (a * 4) (.int .i64 (F a).bits) _ _ _ hcs)))
  have hold : ∀ e i v, w.cell? ⟨gp, e * 4 + i, none⟩ = some v → cs[e * 4 + i]? = some v := by
    intro e i v hv
    rwa [cell_of_row w gp _ _ _ _ hcs] at hv
  refine ⟨⟨_, h4⟩, fun e he => ?_⟩
  have hx := x.at_ e he
  have hx4 := hold e 3 _ hx.c3
  have hsz := (Array.getElem?_eq_some_iff.1 hx4).1
  have hxa := x.at_ a ha
  have hsa := (Array.getElem?_eq_some_iff.1 (hold a 3 _ hxa.c3)).1
  by_cases hea : e = a
  · subst hea
    rw [if_pos (Nat.le_refl _)]
    refine ⟨?_, ?_, ?_, ?_⟩ <;> (rw [cell_of_row _ gp _ _ _ _ h4]; simp [Array.getElem?_setIfInBounds]; omega)
  · have hif : (if a ≤ e then F e else zeroP) = if a + 1 ≤ e then F e else zeroP := by
      by_cases h : a ≤ e
      · rw [if_pos h, if_pos (by omega)]
      · rw [if_neg h, if_neg (by omega)]
    rw [hif]
    refine ⟨?_, ?_, ?_, ?_⟩
    · rw [cell_of_row _ gp _ _ _ _ h4, Array.getElem?_setIfInBounds_ne (by omega), Array.getElem?_setIfInBounds_ne (by omega), Array.getElem?_setIfInBounds_ne (by omega), Array.getElem?_setIfInBounds_ne (by omega)]
      exact hold e 0 _ hx.c0
    · rw [cell_of_row _ gp _ _ _ _ h4, Array.getElem?_setIfInBounds_ne (by omega), Array.getElem?_setIfInBounds_ne (by omega), Array.getElem?_setIfInBounds_ne (by omega), Array.getElem?_setIfInBounds_ne (by omega)]
      exact hold e 1 _ hx.c1
    · rw [cell_of_row _ gp _ _ _ _ h4, Array.getElem?_setIfInBounds_ne (by omega), Array.getElem?_setIfInBounds_ne (by omega), Array.getElem?_setIfInBounds_ne (by omega), Array.getElem?_setIfInBounds_ne (by omega)]
      exact hold e 2 _ hx.c2
    · rw [cell_of_row _ gp _ _ _ _ h4, Array.getElem?_setIfInBounds_ne (by omega), Array.getElem?_setIfInBounds_ne (by omega), Array.getElem?_setIfInBounds_ne (by omega), Array.getElem?_setIfInBounds_ne (by omega)]
      exact hx4

theorem planAt_bd (k : Nat) (p : List UInt8) (hn : p.length ≤ 4096) (e : Nat) : (planAt k p e).bits ≤ 114688 ∧ (planAt k p e).seg ≤ 4096 := by
  have := plan_bd k (p.drop e).length (p.drop e) rfl
  unfold planAt
  simp at this
  omega

end Go.Proofs.Ythebfpolijajgaa
