/-
  Plain: the modules of each purpose are counted (a form over natural numbers that the kernel evaluates), and the path visits each data module once.
  Conditions stand in each lemma.
  Plain: the weighed sums of versions 1 to 31, evaluated.
  Conditions stand in each lemma.
  Plain: the weighed sums of versions 32 to 40, evaluated.
  Conditions stand in each lemma.
  Plain: the numbers of modules of each purpose, for any version.
  Conditions stand in each lemma.
-/
import Derived.Test.YtjkpdhcnklgfbaaPathPlain
namespace Go.Cnt
open Go.Qrv Go.Lay Go.Proofs.Ytjkpdhcnklgfbaa

/-- The alignment coordinate near to a number (0: there is none). -/
def nearN : List Nat → Nat → Nat
  | [], _ => 0
  | a :: l, x => cond (Nat.ble a (x + 2)) (cond (Nat.ble x (a + 2)) a (nearN l x)) (nearN l x)
def alN (v : Nat) : List Nat := cond (Nat.beq v 1) [] (6 :: (List.range (v / 7 + 1)).map fun i => 4 * v + 10 - stepN v * (v / 7 - i))
def cornN (s a b : Nat) : Bool := cond (Nat.beq a 6) (cond (Nat.beq b 6) true (Nat.beq b (s - 7))) (cond (Nat.beq b 6) (Nat.beq a (s - 7)) false)
def alignN (s a b : Nat) : Bool := cond (Nat.beq a 0) false (cond (Nat.beq b 0) false (cond (cornN s a b) false true))
def finN (s x y : Nat) : Bool := cond (Nat.blt x 8) (cond (Nat.blt y 8) true (Nat.ble (s - 8) y)) (cond (Nat.blt y 8) (Nat.ble (s - 8) x) false)
def forN (s x y : Nat) : Bool := cond (Nat.beq y 8) (cond (Nat.ble x 8) true (Nat.ble (s - 8) x)) (cond (Nat.beq x 8) (cond (Nat.ble y 8) true (Nat.ble (s - 7) y)) false)
def verN (s x y : Nat) : Bool := cond (cond (Nat.ble (s - 11) x) (cond (Nat.ble x (s - 9)) (Nat.ble y 5) false) false) true (cond (Nat.ble (s - 11) y) (cond (Nat.ble y (s - 9)) (Nat.ble x 5) false) false)
/-- The purpose of a module, weighed. -/
def wt (s a b x y : Nat) (vs : Bool) : Nat :=
  cond (finN s x y) 0x10000
  (cond (alignN s a b) 0x100000000
  (cond (cond (Nat.beq x 6) true (Nat.beq y 6)) 0
  (cond (cond (Nat.beq x 8) (Nat.beq y (s - 8)) false) 0x100000000000000000000
  (cond (forN s x y) 0x1000000000000
  (cond (cond vs (verN s x y) false) 0x10000000000000000 1)))))
def wgt (q : Int) : Nat := if q = 2 then 0x10000 else if q = 4 then 0x100000000 else if q = 3 then 0 else if q = 7 then 0x100000000000000000000 else if q = 5 then 0x1000000000000 else if q = 6 then 0x10000000000000000 else 1
def sumN (f : Nat → Nat) : Nat → Nat
  | 0 => 0
  | n + 1 => sumN f n + f n
def rowW (s : Nat) (l : List Nat) (vs : Bool) (y b m : Nat) : Nat := sumN (fun x => wt s (nearN l x) b x y vs) m
def allW (v : Nat) : Nat := sumN (fun y => rowW (sz v) (alN v) (Nat.ble 7 v) y (nearN (alN v) y) (sz v)) (sz v)
def expW (v : Nat) : Nat := (8 * wordsN v + remN v) + 0x10000 * 192 + 0x100000000 * (if v = 1 then 0 else 25 * (na v * na v - 3)) + 0x1000000000000 * 30 + 0x10000000000000000 * (if 7 ≤ v then 36 else 0) + 0x100000000000000000000

theorem near_nat (l : List Nat) (hp : ∀ a ∈ l, 0 < a) (x : Nat) : near1 (l.map fun a : Nat => (a : Int)) (x : Int) = (((nearN l x : Nat) : Int), decide (nearN l x ≠ 0)) := by
  induction l with
  | nil => rfl
  | cons a l ih =>
    have ih := ih fun b hb => hp b (List.mem_cons_of_mem _ hb)
    have h0 := hp a (by simp)
    rw [List.map_cons]
    unfold near1 nearN
    by_cases h1 : a ≤ x + 2
    · by_cases h2 : x ≤ a + 2
      · rw [if_pos (by omega), show Nat.ble a (x + 2) = true from Nat.ble_eq.mpr h1, show Nat.ble x (a + 2) = true from Nat.ble_eq.mpr h2]
        simp only [cond_true]
        rw [show decide (a ≠ 0) = true from by simp; omega]
      · rw [if_neg (by omega), show Nat.ble a (x + 2) = true from Nat.ble_eq.mpr h1, show Nat.ble x (a + 2) = false from by rw [Bool.eq_false_iff]; intro h; exact h2 (Nat.le_of_ble_eq_true h)]
        simp only [cond_true, cond_false]
        exact ih
    · rw [if_neg (by omega), show Nat.ble a (x + 2) = false from by rw [Bool.eq_false_iff]; intro h; exact h1 (Nat.le_of_ble_eq_true h)]
      simp only [cond_false]
      exact ih
theorem al_nat (v : Nat) : al v = (alN v).map fun a : Nat => (a : Int) := by
  unfold al alN
  by_cases h : v = 1
  · subst h; rfl
  · rw [if_neg h, show Nat.beq v 1 = false from by rw [Bool.eq_false_iff]; intro e; exact h (Nat.eq_of_beq_eq_true e)]
    simp only [cond_false, List.map_cons, List.map_map]
    rfl
theorem al_pos : ∀ i : Fin 40, ∀ a ∈ alN (i.val + 1), 0 < a := by decide +kernel
theorem ble_dec (a b : Nat) : Nat.ble a b = decide (a ≤ b) := by
  by_cases h : a ≤ b
  · rw [Nat.ble_eq.mpr h, decide_eq_true h]
  · rw [decide_eq_false h, Bool.eq_false_iff]; intro e; exact h (Nat.le_of_ble_eq_true e)
theorem beq_dec (a b : Nat) : Nat.beq a b = decide (a = b) := by
  by_cases h : a = b
  · rw [decide_eq_true h]; subst h; exact Nat.beq_refl a
  · rw [decide_eq_false h, Bool.eq_false_iff]; intro e; exact h (Nat.eq_of_beq_eq_true e)
theorem blt_dec (a b : Nat) : Nat.blt a b = decide (a < b) := by unfold Nat.blt; exact ble_dec _ _
theorem cond_iff (c a b : Bool) : (cond c a b = true) ↔ (c = true ∧ a = true) ∨ (¬ c = true ∧ b = true) := by cases c <;> simp
theorem fin_nat (s x y : Nat) (hs : 21 ≤ s) : isFin s x y = finN s x y := by
  rw [Bool.eq_iff_iff]
  unfold isFin finN
  simp only [cond_iff, ble_dec, blt_dec, Bool.or_eq_true, Bool.and_eq_true, decide_eq_true_eq, Bool.false_eq_true, eq_self, and_true, and_false, or_false]
  omega
theorem for_nat (s x y : Nat) (hs : 21 ≤ s) : isFor s x y = forN s x y := by
  rw [Bool.eq_iff_iff]
  unfold isFor forN
  simp only [cond_iff, ble_dec, beq_dec, Bool.or_eq_true, Bool.and_eq_true, decide_eq_true_eq, Bool.false_eq_true, eq_self, and_true, and_false, or_false]
  omega
theorem ver_nat (s x y : Nat) (hs : 21 ≤ s) : isVer s x y = verN s x y := by
  rw [Bool.eq_iff_iff]
  unfold isVer verN
  simp only [cond_iff, ble_dec, Bool.or_eq_true, Bool.and_eq_true, decide_eq_true_eq, Bool.false_eq_true, eq_self, and_true, and_false, or_false]
  omega
theorem corn_nat (s a b : Nat) (hs : 21 ≤ s) : corn s a b = cornN s a b := by
  rw [Bool.eq_iff_iff]
  unfold corn cornN
  simp only [cond_iff, beq_dec, Bool.or_eq_true, Bool.and_eq_true, beq_iff_eq, decide_eq_true_eq, Bool.false_eq_true, eq_self, and_true, and_false, or_false]
  omega
theorem wt_eq (v s x y : Nat) (l : List Nat) (hp : ∀ a ∈ l, 0 < a) (hs : 21 ≤ s) :
    wgt (pur v s (l.map fun a : Nat => (a : Int)) x y) = wt s (nearN l x) (nearN l y) x y (Nat.ble 7 v) := by
  have ha : (alP (l.map fun a : Nat => (a : Int)) s x y).2 = alignN s (nearN l x) (nearN l y) := by
    unfold alP alignN
    rw [near_nat l hp, near_nat l hp]
    simp only [corn_nat s _ _ hs, beq_dec]
    by_cases h1 : nearN l x = 0 <;> by_cases h2 : nearN l y = 0 <;> simp [h1, h2]
  unfold pur wt
  rw [fin_nat s x y hs, ha, for_nat s x y hs, ver_nat s x y hs]
  simp only [ble_dec, beq_dec]
  cases finN s x y
  · cases alignN s (nearN l x) (nearN l y)
    · by_cases h1 : x = 6 ∨ y = 6
      · rw [if_neg (by simp), if_neg (by simp), if_pos (by omega)]
        simp only [cond_false]
        rw [show (bif decide (x = 6) then true else decide (y = 6)) = true by rcases h1 with h | h <;> simp [h]]
        rfl
      · rw [if_neg (by simp), if_neg (by simp), if_neg (by omega)]
        simp only [cond_false]
        rw [show (bif decide (x = 6) then true else decide (y = 6)) = false by simp; omega]
        simp only [cond_false]
        by_cases h2 : x = 8 ∧ y = s - 8
        · rw [if_pos (by omega)]
          rw [show (bif decide (x = 8) then decide (y = s - 8) else false) = true by simp [h2.1, h2.2]]
          rfl
        · rw [if_neg (by omega)]
          rw [show (bif decide (x = 8) then decide (y = s - 8) else false) = false by simp; omega]
          simp only [cond_false]
          cases forN s x y
          · simp only [cond_false]
            rw [if_neg (by simp)]
            cases verN s x y
            · rw [if_neg (by simp)]
              simp only [Bool.cond_eq_ite, ite_self]
              rfl
            · by_cases h7 : 7 ≤ v
              · rw [if_pos ⟨by omega, rfl⟩, decide_eq_true h7]; rfl
              · rw [if_neg (by omega), decide_eq_false h7]; rfl
          · rfl
    · rfl
  · rfl
theorem sum_congr {f g : Nat → Nat} : ∀ (m : Nat), (∀ i, i < m → f i = g i) → sumN f m = sumN g m := by
  intro m
  induction m with
  | zero => intro _; rfl
  | succ m ih =>
    intro h
    unfold sumN
    rw [ih fun i hi => h i (by omega), h m (by omega)]
theorem sum_add (f : Nat → Nat) (m : Nat) : ∀ k, sumN f (m + k) = sumN f m + sumN (fun i => f (m + i)) k := by
  intro k
  induction k with
  | zero => rfl
  | succ k ih =>
    rw [show sumN f (m + (k + 1)) = sumN f (m + k) + f (m + k) from rfl, ih, show sumN (fun i => f (m + i)) (k + 1) = sumN (fun i => f (m + i)) k + f (m + k) from rfl, Nat.add_assoc]
theorem sum_mul (g : Nat → Nat → Nat) (b : Nat) (hb : 0 < b) : ∀ a, sumN (fun i => g (i % b) (i / b)) (a * b) = sumN (fun y => sumN (fun x => g x y) b) a := by
  intro a
  induction a with
  | zero => rw [Nat.zero_mul]; rfl
  | succ a ih =>
    rw [show (a + 1) * b = a * b + b from Nat.succ_mul a b, sum_add, ih, show sumN (fun y => sumN (fun x => g x y) b) (a + 1) = sumN (fun y => sumN (fun x => g x y) b) a + sumN (fun x => g x a) b from rfl]
    congr 1
    refine sum_congr b fun i hi => ?_
    rw [Nat.mul_comm a b, Nat.mul_add_mod, Nat.mod_eq_of_lt hi, Nat.mul_add_div hb, Nat.div_eq_of_lt hi, Nat.add_zero]
theorem pur_range (v s : Int) (l : List Int) (x y : Int) : 1 ≤ pur v s l x y ∧ pur v s l x y ≤ 7 := by
  unfold pur
  repeat' split
  all_goals decide
def cntL (f : Nat → Int) (m : Nat) (q : Int) : Nat := ((List.range m).map f).count q
theorem cnt_succ (f : Nat → Int) (m : Nat) (q : Int) : cntL f (m + 1) q = cntL f m q + (if f m = q then 1 else 0) := by
  unfold cntL
  rw [List.range_succ, List.map_append, List.count_append, List.map_singleton, List.count_singleton]
  congr 1
  by_cases h : f m = q <;> simp [h]
theorem sum_cnt (f : Nat → Int) : ∀ m, (∀ i, i < m → 1 ≤ f i ∧ f i ≤ 7) →
    sumN (fun i => wgt (f i)) m = cntL f m 1 + 0x10000 * (cntL f m 2 + 0x10000 * (cntL f m 4 + 0x10000 * (cntL f m 5 + 0x10000 * (cntL f m 6 + 0x10000 * cntL f m 7)))) := by
  intro m
  induction m with
  | zero => intro _; rfl
  | succ m ih =>
    intro h
    have hm := h m (by omega)
    rw [show sumN (fun i => wgt (f i)) (m + 1) = sumN (fun i => wgt (f i)) m + wgt (f m) from rfl, ih fun i hi => h i (by omega)]
    simp only [cnt_succ]
    have hc : f m = 1 ∨ f m = 2 ∨ f m = 3 ∨ f m = 4 ∨ f m = 5 ∨ f m = 6 ∨ f m = 7 := by omega
    rcases hc with e | e | e | e | e | e | e <;> rw [e] <;> simp [wgt] <;> omega
theorem dig {a b c d : Nat} (h : a + 0x10000 * b = c + 0x10000 * d) (ha : a < 0x10000) (hc : c < 0x10000) : a = c ∧ b = d := by omega
theorem sizes_all : ∀ i : Fin 40, 8 * wordsN (i.val + 1) + remN (i.val + 1) < 0x10000 ∧ 25 * (na (i.val + 1) * na (i.val + 1) - 3) < 0x10000 ∧ (al (i.val + 1)).length = na (i.val + 1) := by decide +kernel
theorem cnt_lt (f : Nat → Int) (m : Nat) (hm : m < 0x10000) (q : Int) : cntL f m q < 0x10000 := by
  unfold cntL
  have := List.count_le_length (a := q) (l := (List.range m).map f)
  rw [List.length_map, List.length_range] at this
  omega
/-- The numbers of modules of the purposes of a version. -/
structure Counts (n : Nat) : Prop where
  data : (cellsN n).count 1 = 8 * wordsN n + remN n
  finder : (cellsN n).count 2 = 192
  align : (cellsN n).count 4 = if n = 1 then 0 else 25 * (na n * na n - 3)
  format : (cellsN n).count 5 = 30
  version : (cellsN n).count 6 = if 7 ≤ n then 36 else 0
  dark : (cellsN n).count 7 = 1
theorem counts_of (n : Nat) (h1 : 1 ≤ n) (h2 : n ≤ 40) (hw : allW n = expW n) : Counts n := by
  have hs : sd n = sz n := rfl
  have hlt : sd n * sd n < 0x10000 := by
    have : sd n * sd n ≤ 177 * 177 := Nat.mul_le_mul (by unfold sd; omega) (by unfold sd; omega)
    omega
  obtain ⟨z1, z2, z3⟩ := sizes_all ⟨n - 1, by omega⟩
  simp only [show n - 1 + 1 = n by omega] at z1 z2 z3
  have hp := al_pos ⟨n - 1, by omega⟩
  simp only [show n - 1 + 1 = n by omega] at hp
  have e1 : sumN (fun i => wgt (pur n (sd n) (al n) ((i % sd n : Nat) : Int) ((i / sd n : Nat) : Int))) (sd n * sd n) = expW n := by
    rw [sum_mul (fun x y => wgt (pur n (sd n) (al n) (x : Int) (y : Int))) (sd n) (by unfold sd; omega), ← hw]
    unfold allW rowW
    rw [← hs]
    refine sum_congr _ fun y hy => sum_congr _ fun x hx => ?_
    rw [al_nat]
    exact wt_eq n (sd n) x y (alN n) hp (by unfold sd; omega)
  rw [sum_cnt (fun i => pur n (sd n) (al n) ((i % sd n : Nat) : Int) ((i / sd n : Nat) : Int)) _ fun i _ => pur_range _ _ _ _ _] at e1
  have hq : ∀ q, cntL (fun i => pur n (sd n) (al n) ((i % sd n : Nat) : Int) ((i / sd n : Nat) : Int)) (sd n * sd n) q = (cellsN n).count q := fun _ => rfl
  have hb := cnt_lt (fun i => pur n (sd n) (al n) ((i % sd n : Nat) : Int) ((i / sd n : Nat) : Int)) (sd n * sd n) hlt
  simp only [hq] at e1 hb
  have e2 : expW n = (8 * wordsN n + remN n) + 0x10000 * (192 + 0x10000 * ((if n = 1 then 0 else 25 * (na n * na n - 3)) + 0x10000 * (30 + 0x10000 * ((if 7 ≤ n then 36 else 0) + 0x10000 * 1)))) := by unfold expW; omega
  rw [e2] at e1
  obtain ⟨d1, e1⟩ := dig e1 (hb 1) z1
  obtain ⟨d2, e1⟩ := dig e1 (hb 2) (by decide)
  obtain ⟨d4, e1⟩ := dig e1 (hb 4) (by split <;> omega)
  obtain ⟨d5, e1⟩ := dig e1 (hb 5) (by decide)
  obtain ⟨d6, d7⟩ := dig e1 (hb 6) (by split <;> omega)
  exact ⟨d1, d2, d4, d5, d6, d7⟩
theorem mem_path (n : Nat) (p : Nat × Nat) : p ∈ pathN n ↔ ∃ k, k < (sd n - 1) / 2 ∧ ∃ i, i < sd n ∧ ∃ j, j < 2 ∧ p = (rtN (sd n) k - j, yOf (sd n) k i) ∧ isD n p.1 p.2 = true := by
  unfold pathN path1 path2 path3 visit
  simp only [List.mem_flatMap, List.mem_range]
  constructor
  · rintro ⟨k, hk, i, hi, j, hj, hm⟩
    split at hm
    · rename_i hd
      have := List.mem_singleton.mp hm
      subst this
      exact ⟨k, hk, i, hi, j, hj, rfl, hd⟩
    · simp at hm
  · rintro ⟨k, hk, i, hi, j, hj, hp, hd⟩
    subst hp
    refine ⟨k, hk, i, hi, j, hj, ?_⟩
    rw [if_pos hd]
    exact List.mem_singleton.mpr rfl
theorem isD_six (n y : Nat) (_hs : 21 ≤ sd n) : isD n 6 y = false := by
  unfold isD pur
  repeat' split
  all_goals first | rfl | (exfalso; omega)
theorem mem_data (n x y : Nat) (hn : 1 ≤ n) : (x, y) ∈ pathN n ↔ x < sd n ∧ y < sd n ∧ isD n x y = true := by
  have hs : 21 ≤ sd n := by unfold sd; omega
  have ho : sd n % 2 = 1 := by unfold sd; omega
  rw [mem_path]
  constructor
  · rintro ⟨k, hk, i, hi, j, hj, hp, hd⟩
    simp only [Prod.mk.injEq] at hp
    obtain ⟨rfl, rfl⟩ := hp
    refine ⟨?_, ?_, hd⟩
    · unfold rtN; split <;> omega
    · unfold yOf; split <;> omega
  · rintro ⟨hx, hy, hd⟩
    have h6 : x ≠ 6 := by
      rintro rfl
      rw [isD_six n y hs] at hd
      cases hd
    by_cases h : 6 < x
    · refine ⟨(sd n - 1 - x) / 2, by omega, if (sd n - 1 - x) / 2 % 2 = 0 then sd n - 1 - y else y, by split <;> omega, (sd n - 1 - x) % 2, by omega, ?_, hd⟩
      unfold rtN yOf
      rw [if_pos (by omega)]
      congr 1
      · omega
      · split <;> omega
    · refine ⟨(sd n - 2 - x) / 2, by omega, if (sd n - 2 - x) / 2 % 2 = 0 then sd n - 1 - y else y, by split <;> omega, (sd n - 2 - x) % 2, by omega, ?_, hd⟩
      unfold rtN yOf
      rw [if_neg (by omega)]
      congr 1
      · omega
      · split <;> omega
theorem path_nodup (n : Nat) (_hn : 1 ≤ n) : (pathN n).Nodup := by
  have hs : 21 ≤ sd n := by unfold sd; omega
  have ho : sd n % 2 = 1 := by unfold sd; omega
  have hv : ∀ k i j p, p ∈ visit n k i j → p = (rtN (sd n) k - j, yOf (sd n) k i) := by
    intro k i j p hp
    unfold visit at hp
    split at hp
    · exact List.mem_singleton.mp hp
    · simp at hp
  unfold List.Nodup pathN path1 path2 path3
  rw [List.pairwise_flatMap]
  constructor
  · intro k hk
    have hk := List.mem_range.mp hk
    rw [List.pairwise_flatMap]
    constructor
    · intro i hi
      rw [List.pairwise_flatMap]
      constructor
      · intro j hj
        unfold visit
        split
        · exact List.pairwise_singleton _ _
        · exact List.Pairwise.nil
      · rw [List.pairwise_iff_getElem]
        intro a b ha hb hab p hp q hq e
        rw [hv _ _ _ _ hp, hv _ _ _ _ hq] at e
        rw [List.length_range] at ha hb
        rw [List.getElem_range, List.getElem_range] at e
        have e := congrArg Prod.fst e
        simp only [] at e
        unfold rtN at e
        split at e <;> omega
    · rw [List.pairwise_iff_getElem]
      intro a b ha hb hab p hp q hq e
      rw [List.length_range] at ha hb
      simp only [List.mem_flatMap] at hp hq
      obtain ⟨j, _, hp⟩ := hp
      obtain ⟨j', _, hq⟩ := hq
      rw [hv _ _ _ _ hp, hv _ _ _ _ hq, List.getElem_range, List.getElem_range] at e
      have e := congrArg Prod.snd e
      simp only [] at e
      unfold yOf at e
      split at e <;> omega
  · rw [List.pairwise_iff_getElem]
    intro a b ha hb hab p hp q hq e
    rw [List.length_range] at ha hb
    simp only [List.mem_flatMap, List.mem_range] at hp hq
    obtain ⟨i, _, j, hj, hp⟩ := hp
    obtain ⟨i', _, j', hj', hq⟩ := hq
    rw [hv _ _ _ _ hp, hv _ _ _ _ hq, List.getElem_range, List.getElem_range] at e
    have e := congrArg Prod.fst e
    simp only [] at e
    unfold rtN at e
    split at e <;> split at e <;> omega
/-- The place of a module in the rows. -/
def idx (n : Nat) (p : Nat × Nat) : Nat := p.2 * sd n + p.1
theorem cell_idx (n x y : Nat) (hx : x < sd n) (hy : y < sd n) : (cellsN n)[y * sd n + x]? = some (pur n (sd n) (al n) x y) := by
  have hs : 0 < sd n := by omega
  have h3 : y * sd n + x < sd n * sd n := by
    have : (y + 1) * sd n ≤ sd n * sd n := Nat.mul_le_mul_right _ hy
    rw [Nat.add_mul] at this
    omega
  unfold cellsN cellsL
  rw [List.getElem?_map, List.getElem?_range h3, Option.map_some]
  rw [Nat.mul_comm y, Nat.mul_add_mod, Nat.mod_eq_of_lt hx, Nat.mul_add_div hs, Nat.div_eq_of_lt hx, Nat.add_zero]
theorem cells_len (n : Nat) : (cellsN n).length = sd n * sd n := by unfold cellsN cellsL; rw [List.length_map, List.length_range]
theorem idx_mem (n i : Nat) (hn : 1 ≤ n) (hi : i < sd n * sd n) : i ∈ (pathN n).map (idx n) ↔ (cellsN n)[i]? = some 1 := by
  have hs : 0 < sd n := by unfold sd; omega
  have hm : i % sd n < sd n := Nat.mod_lt _ hs
  have hd : i / sd n < sd n := Nat.div_lt_of_lt_mul hi
  have he : i / sd n * sd n + i % sd n = i := by rw [Nat.mul_comm]; exact Nat.div_add_mod i (sd n)
  have hc := cell_idx n _ _ hm hd
  rw [he] at hc
  rw [hc, List.mem_map]
  constructor
  · rintro ⟨⟨x, y⟩, hp, hx⟩
    obtain ⟨h1, h2, h3⟩ := (mem_data n x y hn).mp hp
    unfold idx at hx
    simp only [] at hx
    have := cell_idx n x y h1 h2
    rw [hx] at this
    have h4 := Option.some.inj (hc.symm.trans this)
    rw [h4]
    unfold isD at h3
    rw [beq_iff_eq.mp h3]
  · intro h
    refine ⟨(i % sd n, i / sd n), (mem_data n _ _ hn).mpr ⟨hm, hd, ?_⟩, he⟩
    unfold isD
    rw [Option.some.inj h]
    rfl
theorem idx_nodup (n : Nat) (hn : 1 ≤ n) : ((pathN n).map (idx n)).Nodup := by
  unfold List.Nodup
  rw [List.pairwise_map]
  refine (path_nodup n hn).imp_of_mem ?_
  rintro ⟨x, y⟩ ⟨x', y'⟩ hp hq hne e
  obtain ⟨h1, h2, _⟩ := (mem_data n x y hn).mp hp
  obtain ⟨h3, h4, _⟩ := (mem_data n x' y' hn).mp hq
  unfold idx at e
  simp only [] at e
  have hs : 0 < sd n := by omega
  have hx := congrArg (· % sd n) e
  have hy := congrArg (· / sd n) e
  simp only [Nat.mul_comm y, Nat.mul_comm y', Nat.mul_add_mod, Nat.mod_eq_of_lt h1, Nat.mod_eq_of_lt h3, Nat.mul_add_div hs, Nat.div_eq_of_lt h1, Nat.div_eq_of_lt h3, Nat.add_zero] at hx hy
  exact hne (by rw [hx, hy])
theorem path_len (n : Nat) (hn : 1 ≤ n) : (pathN n).length = (cellsN n).count 1 := by
  have hp : ((pathN n).map (idx n)).Perm ((List.range (sd n * sd n)).filter fun i => (cellsN n)[i]? == some 1) := by
    refine (List.perm_ext_iff_of_nodup (idx_nodup n hn) (List.Pairwise.filter _ List.nodup_range)).mpr fun i => ?_
    rw [List.mem_filter, List.mem_range, beq_iff_eq]
    constructor
    · intro h
      have hi : i < sd n * sd n := by
        obtain ⟨⟨x, y⟩, hp, hx⟩ := List.mem_map.mp h
        obtain ⟨h1, h2, _⟩ := (mem_data n x y hn).mp hp
        unfold idx at hx
        simp only [] at hx
        have : (y + 1) * sd n ≤ sd n * sd n := Nat.mul_le_mul_right _ h2
        rw [Nat.add_mul] at this
        omega
      exact ⟨hi, (idx_mem n i hn hi).mp h⟩
    · rintro ⟨hi, h⟩
      exact (idx_mem n i hn hi).mpr h
  have h1 := hp.length_eq
  rw [List.length_map] at h1
  rw [h1, ← List.countP_eq_length_filter, List.count_eq_countP]
  have hc : cellsN n = (List.range (sd n * sd n)).map fun i => pur n (sd n) (al n) ((i % sd n : Nat) : Int) ((i / sd n : Nat) : Int) := rfl
  rw [hc, List.countP_map]
  refine List.countP_congr fun i hi => ?_
  have hi := List.mem_range.mp hi
  rw [List.getElem?_map, List.getElem?_range hi]
  simp

end Go.Cnt

namespace Go.Cnt

set_option maxRecDepth 100000
theorem w1 : allW 1 = expW 1 := by decide +kernel
theorem w2 : allW 2 = expW 2 := by decide +kernel
theorem w3 : allW 3 = expW 3 := by decide +kernel
theorem w4 : allW 4 = expW 4 := by decide +kernel
theorem w5 : allW 5 = expW 5 := by decide +kernel
theorem w6 : allW 6 = expW 6 := by decide +kernel
theorem w7 : allW 7 = expW 7 := by decide +kernel
theorem w8 : allW 8 = expW 8 := by decide +kernel
theorem w9 : allW 9 = expW 9 := by decide +kernel
theorem w10 : allW 10 = expW 10 := by decide +kernel
theorem w11 : allW 11 = expW 11 := by decide +kernel
theorem w12 : allW 12 = expW 12 := by decide +kernel
theorem w13 : allW 13 = expW 13 := by decide +kernel
theorem w14 : allW 14 = expW 14 := by decide +kernel
theorem w15 : allW 15 = expW 15 := by decide +kernel
theorem w16 : allW 16 = expW 16 := by decide +kernel
theorem w17 : allW 17 = expW 17 := by decide +kernel
theorem w18 : allW 18 = expW 18 := by decide +kernel
theorem w19 : allW 19 = expW 19 := by decide +kernel
theorem w20 : allW 20 = expW 20 := by decide +kernel
theorem w21 : allW 21 = expW 21 := by decide +kernel
theorem w22 : allW 22 = expW 22 := by decide +kernel
theorem w23 : allW 23 = expW 23 := by decide +kernel
theorem w24 : allW 24 = expW 24 := by decide +kernel
theorem w25 : allW 25 = expW 25 := by decide +kernel
theorem w26 : allW 26 = expW 26 := by decide +kernel
theorem w27 : allW 27 = expW 27 := by decide +kernel
theorem w28 : allW 28 = expW 28 := by decide +kernel
theorem w29 : allW 29 = expW 29 := by decide +kernel
theorem w30 : allW 30 = expW 30 := by decide +kernel
theorem w31 : allW 31 = expW 31 := by decide +kernel

end Go.Cnt

namespace Go.Cnt

set_option maxRecDepth 100000
theorem w32 : allW 32 = expW 32 := by decide +kernel
theorem w33 : allW 33 = expW 33 := by decide +kernel
theorem w34 : allW 34 = expW 34 := by decide +kernel
theorem w35 : allW 35 = expW 35 := by decide +kernel
theorem w36 : allW 36 = expW 36 := by decide +kernel
theorem w37 : allW 37 = expW 37 := by decide +kernel
theorem w38 : allW 38 = expW 38 := by decide +kernel
theorem w39 : allW 39 = expW 39 := by decide +kernel
theorem w40 : allW 40 = expW 40 := by decide +kernel

end Go.Cnt

namespace Go.Cnt
open Go.Qrv Go.Lay Go.Proofs.Ytjkpdhcnklgfbaa

theorem allW_eq : ∀ (n : Nat), 1 ≤ n → n ≤ 40 → allW n = expW n
  | 0, h, _ => absurd h (by omega)
  | 1, _, _ => w1
  | 2, _, _ => w2
  | 3, _, _ => w3
  | 4, _, _ => w4
  | 5, _, _ => w5
  | 6, _, _ => w6
  | 7, _, _ => w7
  | 8, _, _ => w8
  | 9, _, _ => w9
  | 10, _, _ => w10
  | 11, _, _ => w11
  | 12, _, _ => w12
  | 13, _, _ => w13
  | 14, _, _ => w14
  | 15, _, _ => w15
  | 16, _, _ => w16
  | 17, _, _ => w17
  | 18, _, _ => w18
  | 19, _, _ => w19
  | 20, _, _ => w20
  | 21, _, _ => w21
  | 22, _, _ => w22
  | 23, _, _ => w23
  | 24, _, _ => w24
  | 25, _, _ => w25
  | 26, _, _ => w26
  | 27, _, _ => w27
  | 28, _, _ => w28
  | 29, _, _ => w29
  | 30, _, _ => w30
  | 31, _, _ => w31
  | 32, _, _ => w32
  | 33, _, _ => w33
  | 34, _, _ => w34
  | 35, _, _ => w35
  | 36, _, _ => w36
  | 37, _, _ => w37
  | 38, _, _ => w38
  | 39, _, _ => w39
  | 40, _, _ => w40
  | n + 41, _, h => absurd h (by omega)
theorem counts (n : Nat) (h1 : 1 ≤ n) (h2 : n ≤ 40) : Counts n := counts_of n h1 h2 (allW_eq n h1 h2)
theorem path_full (n : Nat) (h1 : 1 ≤ n) (h2 : n ≤ 40) : (pathN n).length = 8 * wordsN n + remN n := by
  rw [path_len n h1]
  exact (counts n h1 h2).data
theorem path_room (n : Nat) (h1 : 1 ≤ n) (h2 : n ≤ 40) : 8 * wordsN n ≤ (pathN n).length := by
  have := path_full n h1 h2
  omega

end Go.Cnt
