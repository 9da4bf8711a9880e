/-
  Whether a module of a function pattern is dark: contracts of qrlayout's dark, and of the reference's far and dark.
  Conditions: small numbers.
  The contract of qrlayout's blank.
  Conditions: a layout's slice holds its alignment coordinates.
  The contracts of qrlayout.Blank and of the reference's Blank.
  Condition: none.
  The contracts of qrlayout.Faults and of the reference's Faults.
  Conditions: a matrix of a version's size; or one that is not.
-/
import Derived.Test.YtjkpdhcnklgfbaaCells
import Derived.Test.YtjkpdhcnklgfbaaRPur
import Derived.Test.YtjkpdhcnklgfbaaRound
import Derived.Test.YtjkpdhcnklgfbaaRCells
import Derived.Deep.DeepCutAuto
import Derived.Deep.QuietTactic
import Derived.BigQuiet
namespace Go.Lay
/-- Whether a module is dark, its purpose being p, c the center of its alignment pattern. -/
def darkV (p s x y : Int) (c : Int × Int) : Bool :=
  if p = 2 then (dis x y (if s - 8 ≤ x then s - 4 else 3) (if s - 8 ≤ y then s - 4 else 3) != 2) && (dis x y (if s - 8 ≤ x then s - 4 else 3) (if s - 8 ≤ y then s - 4 else 3) != 4)
  else if p = 4 then dis x y c.1 c.2 != 1 else if p = 3 then (x + y) % 2 == 0 else p == 7
theorem darkV_2 {s x y : Int} {c : Int × Int} {a b : Int} (ha : (s - 8 ≤ x ∧ a = s - 4) ∨ (x < s - 8 ∧ a = 3)) (hb : (s - 8 ≤ y ∧ b = s - 4) ∨ (y < s - 8 ∧ b = 3)) :
    darkV 2 s x y c = ((dis x y a b != 2) && (dis x y a b != 4)) := by
  have e1 : (if s - 8 ≤ x then s - 4 else 3) = a := by split <;> omega
  have e2 : (if s - 8 ≤ y then s - 4 else 3) = b := by split <;> omega
  unfold darkV
  rw [if_pos rfl, e1, e2]
theorem darkV_4 {s x y : Int} {c : Int × Int} : darkV 4 s x y c = (dis x y c.1 c.2 != 1) := by
  unfold darkV
  rw [if_neg (by decide), if_pos rfl]
theorem darkV_3 {s x y : Int} {c : Int × Int} : darkV 3 s x y c = ((x + y) % 2 == 0) := by
  unfold darkV
  rw [if_neg (by decide), if_neg (by decide), if_pos rfl]
theorem darkV_o {p s x y : Int} {c : Int × Int} (h2 : p ≠ 2) (h4 : p ≠ 4) (h3 : p ≠ 3) : darkV p s x y c = (p == 7) := by
  unfold darkV
  rw [if_neg h2, if_neg h4, if_neg h3]
theorem two4 (d : Int) : ∃ r, ((d != 2) && (d != 4)) = r ∧ (((d != 2) = false ∧ r = false) ∨ ((d != 2) = true ∧ (d != 4) = false ∧ r = false) ∨ ((d != 2) = true ∧ (d != 4) = true ∧ r = true)) := by
  refine ⟨_, rfl, ?_⟩
  cases d != 2 <;> cases d != 4 <;> simp
theorem center (s x : Int) : ∃ a, (s - 8 ≤ x ∧ a = s - 4) ∨ (x < s - 8 ∧ a = 3) := by
  by_cases h : s - 8 ≤ x
  · exact ⟨_, .inl ⟨h, rfl⟩⟩
  · exact ⟨_, .inr ⟨by omega, rfl⟩⟩
theorem pur_p (v s : Int) (l : List Int) (x y : Int) : pur v s l x y = 2 ∨ pur v s l x y = 4 ∨ pur v s l x y = 3 ∨ pur v s l x y = 7 ∨ pur v s l x y = 5 ∨ pur v s l x y = 6 ∨ pur v s l x y = 1 := by
  unfold pur
  split
  · simp
  · split
    · simp
    · split
      · simp
      · split
        · simp
        · split
          · simp
          · split <;> simp
theorem pur_4 {v s : Int} {l : List Int} {x y : Int} (h : pur v s l x y = 4) : (alP l s x y).2 = true := by
  unfold pur at h
  split at h
  · cases h
  · split at h
    · assumption
    · split at h
      · cases h
      · split at h
        · cases h
        · split at h
          · cases h
          · split at h <;> cases h
end Go.Lay
namespace Go.Proofs.Ytjkpdhcnklgfbaa
open Go.RowKit Go.Bs Go.Qrv Go.Lay

theorem run_max2 {P : Program} (w : World) (ts : Array TypeId) (t : TypeId) (k : IntKind) (p q : Int) :
    (Builtin.max_ ts t #[.int k p, .int k q]).run P w = .ok (.int k (max p q)) w := by
  have e : ∀ a b : Int, (if b > a then b else a) = max a b := fun a b => by omega
  simp [Builtin.max_, Builtin.max2, e]

set_option maxRecDepth 20000 in
set_option maxHeartbeats 800000 in
theorem far_any (x y a b : Int) (w : World) (hx : 0 ≤ x ∧ x ≤ 1000) (hy : 0 ≤ y ∧ y ≤ 1000) (ha : 0 ≤ a ∧ a ≤ 1000) (hb : 0 ≤ b ∧ b ≤ 1000) :
    Calls Try.prog 70 #[.int .i64 x, .int .i64 y, .int .i64 a, .int .i64 b] w fun e w' => e = .returned (.int .i64 (dis x y a b)) ∧ w = w' := by
  have hmx := @run_max2 Try.prog
  go_enter Try.func70, Try.ntmps70
  go_wp2_with fail
  go_ret
  exact ⟨ret_int (by unfold dis; omega), rfl⟩


set_option maxRecDepth 20000 in
set_option maxHeartbeats 2000000 in
theorem dark_any (v s x y p : Int) (l : List Int) (ao : Option Addr) (cap : Nat) (w : World) (hr : Row w ao (ints l)) (hn : l.length ≤ 1000) (hb : ∀ a ∈ l, 0 ≤ a ∧ a ≤ 1000) (hs : 21 ≤ s ∧ s ≤ 1000) (hx : 0 ≤ x ∧ x ≤ 1000) (hy : 0 ≤ y ∧ y ≤ 1000) :
    Calls Try.prog 69 #[.agg (layV v s ao l.length cap), .int .i64 x, .int .i64 y, .int .i64 p] w fun e w' => e = .returned (.bool (darkV p s x y (alP l s x y).1)) ∧ Ext w w' := by
  have HAL := fun (W : World) (h : Row W ao (ints l)) => Lib.hid (align_any v s x y l ao cap W h hn hb (by omega) hx hy)
  have ha1 := near1_bd 1000 (by decide) l x hb
  have hb1 := near1_bd 1000 (by decide) l y hb
  have HR := Lib.hid hr
  clear hr hn hb
  by_cases h2 : p = 2
  · subst h2
    clear HAL ha1 hb1
    skip
    obtain ⟨a, ha⟩ := center s x
    obtain ⟨b, hb⟩ := center s y
    have HD := Lib.hid (darkV_2 (c := (alP l s x y).1) ha hb)
    rw [HD.out]
    have hab : 0 ≤ a ∧ a ≤ 1000 ∧ 0 ≤ b ∧ b ≤ 1000 := by omega
    have HDI := fun (W : World) => Lib.hid (distance_any x y a b W hx hy ⟨hab.1, hab.2.1⟩ ⟨hab.2.2.1, hab.2.2.2⟩)
    generalize dis x y a b = d at HDI ⊢
    obtain ⟨r, hr4, h24⟩ := two4 d
    rw [hr4]
    clear HD hab hr4
    generalize l.length = n
    unfold layV
    rcases ha with ⟨c1, rfl⟩ | ⟨c1, rfl⟩ <;> rcases hb with ⟨c2, rfl⟩ | ⟨c2, rfl⟩ <;> rcases h24 with ⟨e1, rfl⟩ | ⟨e1, e2, rfl⟩ | ⟨e1, e2, rfl⟩
    all_goals
      go_enter Try.func69, Try.ntmps69
      go_wp2_with fail
      refine (HDI _).out.mono ?_
      rintro e w1 ⟨rfl, rfl⟩
      go_wp2_with fail
      go_ret
      exact ⟨rfl, Ext.alloc _ _⟩
  · by_cases h4 : p = 4
    · subst h4
      rw [darkV_4]
      have HC : Hid ((alP l s x y).1 = ((near1 l x).1, (near1 l y).1)) := rfl
      have HDI := fun (W : World) => Lib.hid (distance_any x y (alP l s x y).1.1 (alP l s x y).1.2 W hx hy ha1 hb1)
      generalize alP l s x y = R at HAL HDI ⊢
      obtain ⟨⟨A, B⟩, q⟩ := R
      simp only at HAL HDI ⊢
      generalize dis x y A B = d at HDI ⊢
      generalize l.length = n at HAL ⊢
      unfold layV at HAL ⊢
      clear h2 HC ha1 hb1
      go_enter Try.func69, Try.ntmps69
      go_wp2_with fail
      refine (HAL _ (HR.out.ext (Ext.alloc _ _))).out.mono ?_
      rintro e w1 ⟨rfl, hx1⟩
      have HX1 := Lib.hid ((Ext.alloc _ _).trans hx1)
      clear hx1
      go_wp2_with fail
      refine (HDI _).out.mono ?_
      rintro e w2 ⟨rfl, rfl⟩
      go_wp2_with fail
      go_ret
      exact ⟨rfl, HX1.out.trans (Ext.alloc _ _)⟩
    · clear HAL ha1 hb1
      by_cases h3 : p = 3
      · subst h3
        rw [darkV_3]
        generalize l.length = n
        unfold layV
        clear h2 h4
        go_enter Try.func69, Try.ntmps69
        go_wp2_with fail
        go_ret
        exact ⟨rfl, Ext.alloc _ _⟩
      · rw [darkV_o h2 h4 h3]
        have e2 : (p == 2) = false := by simpa using h2
        have e4 : (p == 4) = false := by simpa using h4
        have e3 : (p == 3) = false := by simpa using h3
        generalize l.length = n
        unfold layV
        clear h2 h4 h3
        go_enter Try.func69, Try.ntmps69
        go_wp2_with fail
        go_ret
        exact ⟨rfl, Ext.alloc _ _⟩

set_option maxRecDepth 20000 in
set_option maxHeartbeats 2000000 in
theorem rdark_any (v s x y : Int) (l : List Int) (ao : Option Addr) (cap : Nat) (w : World) (hr : Row w ao (ints l)) (hn : l.length ≤ 1000) (hb : ∀ a ∈ l, 0 ≤ a ∧ a ≤ 1000) (hs : 21 ≤ s ∧ s ≤ 1000) (hx : 0 ≤ x ∧ x ≤ 1000) (hy : 0 ≤ y ∧ y ≤ 1000) (hsp : Sparse l) (hV : 45 ≤ s ↔ 7 ≤ v) :
    Calls Try.prog 39 #[.slice ao l.length cap, .int .i64 s, .int .i64 x, .int .i64 y] w fun e w' => e = .returned (.bool (darkV (pur v s l x y) s x y (alP l s x y).1)) ∧ Ext w w' := by
  have HPU := Lib.hid (rpurpose_any v s x y l ao cap w hr hn hb hs hx hy hsp hV)
  have HAL := fun (W : World) (h : Row W ao (ints l)) => Lib.hid (raligned_any s x y l ao cap W h hn hb (by omega) hsp)
  have ha1 := near1_bd 1000 (by decide) l x hb
  have hb1 := near1_bd 1000 (by decide) l y hb
  have h4 := @pur_4 v s l x y
  have hp := pur_p v s l x y
  have HR := Lib.hid hr
  clear hr hn hb hV hsp
  generalize pur v s l x y = p at HPU h4 hp ⊢
  by_cases h2 : p = 2
  · subst h2
    clear HAL ha1 hb1 h4 hp
    skip
    obtain ⟨a, ha⟩ := center s x
    obtain ⟨b, hb⟩ := center s y
    have HD := Lib.hid (darkV_2 (c := (alP l s x y).1) ha hb)
    rw [HD.out]
    have hab : 0 ≤ a ∧ a ≤ 1000 ∧ 0 ≤ b ∧ b ≤ 1000 := by omega
    have HDI := fun (W : World) => Lib.hid (far_any x y a b W hx hy ⟨hab.1, hab.2.1⟩ ⟨hab.2.2.1, hab.2.2.2⟩)
    generalize dis x y a b = d at HDI ⊢
    obtain ⟨r, hr4, h24⟩ := two4 d
    rw [hr4]
    clear HD hab hr4
    generalize l.length = n at HPU ⊢
    rcases ha with ⟨c1, rfl⟩ | ⟨c1, rfl⟩ <;> rcases hb with ⟨c2, rfl⟩ | ⟨c2, rfl⟩ <;> rcases h24 with ⟨e1, rfl⟩ | ⟨e1, e2, rfl⟩ | ⟨e1, e2, rfl⟩
    all_goals
      go_enter Try.func39, Try.ntmps39
      go_wp2_with fail
      refine HPU.out.mono ?_
      rintro e w1 ⟨rfl, hx1⟩
      have HX1 := Lib.hid hx1
      clear hx1
      go_wp2_with fail
      refine (HDI _).out.mono ?_
      rintro e w2 ⟨rfl, rfl⟩
      go_wp2_with fail
      go_ret
      exact ⟨rfl, HX1.out⟩
  · by_cases h4' : p = 4
    · subst h4'
      have h4 := h4 rfl
      rw [darkV_4]
      have HDI := fun (W : World) => Lib.hid (far_any x y (alP l s x y).1.1 (alP l s x y).1.2 W hx hy ha1 hb1)
      have HRA : Hid (rAl l s x y = ((alP l s x y).1.1, (alP l s x y).1.2, true)) := by show _ = _; unfold rAl; rw [if_pos h4]
      rw [HRA.out] at HAL
      clear h4
      generalize (alP l s x y).1 = R at HAL HDI ⊢
      obtain ⟨A, B⟩ := R
      simp only at HAL HDI ⊢
      generalize dis x y A B = d at HDI ⊢
      generalize l.length = n at HAL HPU ⊢
      clear h2 HRA ha1 hb1 hp
      go_enter Try.func39, Try.ntmps39
      go_wp2_with fail
      refine HPU.out.mono ?_
      rintro e w1 ⟨rfl, hx1⟩
      have HX1 := Lib.hid hx1
      clear hx1
      go_wp2_with fail
      refine (HAL _ (HR.out.ext HX1.out)).out.mono ?_
      rintro e w2 ⟨rfl, hx2⟩
      have HX2 := Lib.hid (HX1.out.trans hx2)
      clear hx2
      go_wp2_with fail
      refine (HDI _).out.mono ?_
      rintro e w3 ⟨rfl, rfl⟩
      go_wp2_with fail
      go_ret
      exact ⟨rfl, HX2.out⟩
    · clear HAL ha1 hb1 h4
      by_cases h3 : p = 3
      · subst h3
        rw [darkV_3]
        generalize l.length = n at HPU ⊢
        clear h2 h4' hp
        go_enter Try.func39, Try.ntmps39
        go_wp2_with fail
        refine HPU.out.mono ?_
        rintro e w1 ⟨rfl, hx1⟩
        have HX1 := Lib.hid hx1
        clear hx1
        go_wp2_with fail
        go_ret
        exact ⟨rfl, HX1.out⟩
      · rw [darkV_o h2 h4' h3]
        generalize l.length = n at HPU ⊢
        have hp' : p = 7 ∨ p = 5 ∨ p = 6 ∨ p = 1 := by omega
        clear h2 h4' h3 hp
        rcases hp' with rfl | rfl | rfl | rfl
        all_goals
          go_enter Try.func39, Try.ntmps39
          go_wp2_with fail
          refine HPU.out.mono ?_
          rintro e w1 ⟨rfl, hx1⟩
          have HX1 := Lib.hid hx1
          clear hx1
          go_wp2_with fail
          go_ret
          exact ⟨rfl, HX1.out⟩

end Go.Proofs.Ytjkpdhcnklgfbaa

namespace Go.Proofs.Ytjkpdhcnklgfbaa
open Go.RowKit Go.Bs Go.Qrv Go.Lay

def dkAt (n x y : Nat) : Bool := darkV (pur n (sd n) (al n) x y) (sd n) x y (alP (al n) (sd n) x y).1
/-- The modules of a matrix that has the function patterns alone. -/
def blankN (n : Nat) : List Bool := (List.range (sd n * sd n)).map fun i => dkAt n (i % sd n) (i / sd n)
theorem blankN_len (n : Nat) : (blankN n).length = sd n * sd n := by simp [blankN]
theorem blankN_at (n i : Nat) (h : i < sd n * sd n) : (bools (blankN n))[i]? = some (.bool (dkAt n (i % sd n) (i / sd n))) := by
  unfold blankN bools
  simp [h]


set_option maxRecDepth 20000 in
set_option maxHeartbeats 2000000 in
theorem blank_any (n : Nat) (h1 : 1 ≤ n) (h2 : n ≤ 40) (ao : Option Addr) (cap : Nat) (w : World) (hr : Row w ao (ints (al n))) :
    Calls Try.prog 37 #[.agg (layV n (sd n) ao (al n).length cap)] w (OwnMat 4 w (sd n) (sd n) (blankN n)) := by
  obtain ⟨a1, a2, a3⟩ := al_facts n h1 h2
  have hsb : 21 ≤ sd n ∧ sd n ≤ 177 := by unfold sd; omega
  have HCE := fun (W : World) (h : Row W ao (ints (al n))) => Lib.hid (cells_own n (sd n) (al n) ao cap W h (by omega) (fun a ha => by have := a2 a ha; omega) (by omega) (by omega))
  have HCN : Hid (cellsL n (sd n) (al n) (sd n * sd n) = cellsN n) := rfl
  rw [HCN.out] at HCE
  have HDK := fun (i : Nat) (hi : i < sd n * sd n) (W : World) (h : Row W ao (ints (al n))) => Lib.hid (dark_any n (sd n) ((i % sd n : Nat) : Int) ((i / sd n : Nat) : Int) (pur n (sd n) (al n) ((i % sd n : Nat) : Int) ((i / sd n : Nat) : Int)) (al n) ao cap W h (by omega) (fun a ha => by have := a2 a ha; omega) (by omega)
    (by have h := Nat.mod_lt i (show 0 < sd n by omega); generalize i % sd n = M at h ⊢; omega) (by have h := Nat.div_lt_of_lt_mul hi; generalize i / sd n = D at h ⊢; omega))
  have HAT := fun (i : Nat) (hi : i < sd n * sd n) => Lib.hid (cellsN_at n i hi)
  have HBT : ∀ (i : Nat) (hi : i < sd n * sd n), Hid ((bools (blankN n))[i]? = some (.bool (darkV (pur n (sd n) (al n) ((i % sd n : Nat) : Int) ((i / sd n : Nat) : Int)) (sd n) ((i % sd n : Nat) : Int) ((i / sd n : Nat) : Int) (alP (al n) (sd n) ((i % sd n : Nat) : Int) ((i / sd n : Nat) : Int)).1))) := fun i hi => blankN_at n i hi
  have HLEN := Lib.hid (cellsN_len n)
  have HLB : Hid ((bools (blankN n)).length = sd n * sd n) := by rw [length_bools]; exact blankN_len n
  have hdm := fun (i : Nat) (hi : i < sd n * sd n) => (⟨Nat.mod_lt i (show 0 < sd n by omega), Nat.div_lt_of_lt_mul hi⟩ : i % sd n < sd n ∧ i / sd n < sd n)
  have HR := Lib.hid hr
  unfold OwnMat
  rw [blankN_len]
  clear a1 a2 a3 hr HCN
  generalize al n = L at HCE HDK HAT HBT HR ⊢
  generalize ints (cellsN n) = C at HCE HLEN HAT
  generalize bools (blankN n) = BL at HBT HLB ⊢
  generalize sd n = k at hsb HCE HDK HAT HBT HLEN HLB hdm ⊢
  obtain ⟨Q, hQ⟩ : ∃ Q, k * k = Q := ⟨_, rfl⟩
  have hQb : 441 ≤ Q ∧ Q ≤ 31329 := by rw [← hQ]; exact ⟨Nat.mul_le_mul hsb.1 hsb.1, Nat.mul_le_mul hsb.2 hsb.2⟩
  have hpw : IntKind.i64.wrap ((k : Int) * (k : Int)) = (Q : Int) := by rw [← Int.natCast_mul, hQ]; exact IntWalk.i64_in _ ⟨by omega, by omega⟩
  rw [hQ] at HDK HAT HBT HLEN HLB hdm ⊢
  have HPW := Lib.hid hpw
  have HDM := Lib.hid hdm
  clear hQ hpw hdm
  generalize L.length = m at HCE HDK ⊢
  unfold layV at HCE HDK ⊢
  obtain ⟨W2, hW2⟩ : ∃ W2, W2 = (w.alloc (.cells #[.int .i64 n, .int .i64 k, .slice ao m cap] 69)).alloc (.cells #[.int .i64 0, .int .i64 0, .slice none 0 0] 24) := ⟨_, rfl⟩
  have HBX : Hid (∀ V, Ext W2 V → V.cell? ⟨w.heap.size, 0, none⟩ = some (.int .i64 n) ∧ V.cell? ⟨w.heap.size, 1, none⟩ = some (.int .i64 k) ∧ V.cell? ⟨w.heap.size, 2, none⟩ = some (.slice ao m cap)) := by
    intro V h
    rw [hW2] at h
    exact box3 ((Ext.alloc _ _).trans h)
  have HG2 : Hid (∀ V, Ext W2 V → V.heap[w.heap.size + 1]? = some (.cells #[.int .i64 0, .int .i64 0, .slice none 0 0] 24 (0, 0))) := by
    intro V h
    rw [hW2] at h
    have := h.new
    rwa [World.size_alloc] at this
  have HX2 : Hid (Ext w W2) := by rw [hW2]; exact (Ext.alloc _ _).trans (Ext.alloc _ _)
  have HS2 : Hid (W2.heap.size = w.heap.size + 2) := by rw [hW2, World.size_alloc, World.size_alloc]; exact rfl
  have HW2 := Lib.hid hW2
  clear hW2
  go_enter Try.func37, Try.ntmps37
  go_upto_region 1 with fail
  rw [← HW2.out]
  go_cut [3] (fun p3 wx => ∃ g h, p3 = .pointer (some ⟨g, 0, none⟩) ∧ wx.heap[g]? = some (.cells #[.int .i64 k, .int .i64 k, .slice (some ⟨h, 0, none⟩) Q Q] 24 (0, 0)) ∧ wx.ownsRow W2.heap.size 4 1 (.slice (some ⟨h, 0, none⟩) Q Q) Q (filled BL (.bool false) 0) ∧ g ≠ h ∧ W2.heap.size ≤ g ∧ Ext W2 wx)
  case first =>
    have b0 := fun V h => (HBX.out V h).1
    have b1 := fun V h => (HBX.out V h).2.1
    have hpw := HPW.out
    refine wp_region_held_drew (S := fun V => Ext W2 V) (by kernel_rfl) (Ext.drew _) (fun hcur => ?_)
    skip
    refine wpAnyH_take (i := 0) (v := ?_) rfl (by kernel_rfl) (by kernel_rfl) (by kernel_rfl) (fun _ _ _ h => h) (Or.inl ⟨by rfl, ?_⟩) (by assumption) ?_
    rotate_left
    · (intro w hSw; try dsimp only at hSw); go_simp; try with_reducible rfl
    simp only [List.getElem_toArray, List.getElem_cons_zero, Act.put, List.setIfInBounds_toArray, List.set_cons_zero, List.set_cons_succ]
    skip
    refine wpAnyH_take (i := 1) (v := ?_) rfl (by kernel_rfl) (by kernel_rfl) (by kernel_rfl) (fun _ _ _ h => h) (Or.inl ⟨by rfl, ?_⟩) (by assumption) ?_
    rotate_left
    · (intro w hSw; try dsimp only at hSw); go_simp; try with_reducible rfl
    simp only [List.getElem_toArray, List.getElem_cons_zero, List.getElem_cons_succ, Act.put, List.setIfInBounds_toArray, List.set_cons_zero, List.set_cons_succ]
    skip
    refine wpAnyH_take (i := 2) (v := ?_) rfl (by kernel_rfl) (by kernel_rfl) (by kernel_rfl) (fun _ _ _ h => h) (Or.inl ⟨by rfl, ?_⟩) (by assumption) ?_
    rotate_left
    · (intro w hSw; try dsimp only at hSw); go_simp; try with_reducible rfl
    simp only [List.getElem_toArray, List.getElem_cons_zero, List.getElem_cons_succ, Act.put, List.setIfInBounds_toArray, List.set_cons_zero, List.set_cons_succ]
    skip
    refine wpAnyH_take (i := 3) (v := ?_) rfl (by kernel_rfl) (by kernel_rfl) (by kernel_rfl) (fun _ _ _ h => h) (Or.inl ⟨by rfl, ?_⟩) (by assumption) ?_
    rotate_left
    · (intro w hSw; try dsimp only at hSw); go_simp; try with_reducible rfl
    simp only [List.getElem_toArray, List.getElem_cons_zero, List.getElem_cons_succ, Act.put, List.setIfInBounds_toArray, List.set_cons_zero, List.set_cons_succ]
    skip
    refine wpAnyH_take (i := 4) (v := ?_) rfl (by kernel_rfl) (by kernel_rfl) (by kernel_rfl) (fun _ _ _ h => h) (Or.inl ⟨by rfl, ?_⟩) (by assumption) ?_
    rotate_left
    · (intro w hSw; try dsimp only at hSw); go_simp; try with_reducible rfl
    simp only [List.getElem_toArray, List.getElem_cons_zero, List.getElem_cons_succ, Act.put, List.setIfInBounds_toArray, List.set_cons_zero, List.set_cons_succ]
    skip
    refine wpAnyH_take (i := 5) (v := ?_) rfl (by kernel_rfl) (by kernel_rfl) (by kernel_rfl) (fun _ _ _ h => h) (Or.inl ⟨by rfl, ?_⟩) (by assumption) ?_
    rotate_left
    · (intro w hSw; try dsimp only at hSw); go_simp; try with_reducible rfl
    simp only [List.getElem_toArray, List.getElem_cons_zero, List.getElem_cons_succ, Act.put, List.setIfInBounds_toArray, List.set_cons_zero, List.set_cons_succ]
    skip
    refine wpAnyH_take (i := 6) (v := ?_) rfl (by kernel_rfl) (by kernel_rfl) (by kernel_rfl) (fun _ _ _ h => h) (Or.inl ⟨by rfl, ?_⟩) (by assumption) ?_
    rotate_left
    · (intro w hSw; try dsimp only at hSw); go_simp; try with_reducible rfl
    simp only [List.getElem_toArray, List.getElem_cons_zero, List.getElem_cons_succ, Act.put, List.setIfInBounds_toArray, List.set_cons_zero, List.set_cons_succ]
    skip
    refine wpAnyH_take (i := 7) (v := ?_) rfl (by kernel_rfl) (by kernel_rfl) (by kernel_rfl) (fun _ _ _ h => h) (Or.inl ⟨by rfl, ?_⟩) (by assumption) ?_
    rotate_left
    · (intro w hSw; try dsimp only at hSw); go_simp; try with_reducible rfl
    simp only [List.getElem_toArray, List.getElem_cons_zero, List.getElem_cons_succ, Act.put, List.setIfInBounds_toArray, List.set_cons_zero, List.set_cons_succ]
    skip
    refine wpAnyH_take (i := 8) (v := ?_) rfl (by kernel_rfl) (by kernel_rfl) (by kernel_rfl) (fun _ _ _ h => h) (Or.inl ⟨by rfl, ?_⟩) (by assumption) ?_
    rotate_left
    · (intro w hSw; try dsimp only at hSw); go_simp; try with_reducible rfl
    simp only [List.getElem_toArray, List.getElem_cons_zero, List.getElem_cons_succ, Act.put, List.setIfInBounds_toArray, List.set_cons_zero, List.set_cons_succ]
    generalize W2.drew = WD at hcur ⊢
    refine wpAnyH_law2 9 11 (by kernel_rfl) rfl rfl rfl rfl
      (wp_make _ _ 22 rfl 4 (.bool false) 1 Try.infoBool' rfl Try.underlying22 _ _ _ _ rfl rfl Q Q (by first | rfl | exact HPW.out) (by first | rfl | exact HPW.out) (Nat.le_refl _) (by omega) (by omega) ?_)
      (wp_allocAgg 24 rfl #[.int .i64 0, .int .i64 0, .slice none 0 0] (by kernel_rfl) ?_)
    · intro w3 hown3 hx3
      have hx23 : Ext W2 w3 := hcur.trans hx3
      refine ⟨hx23, ?_⟩
      have hown3' := own_base hown3 hcur.size
      have hlt3 := (own_ptr hown3 (by omega))
      simp only [Act.put, List.setIfInBounds_toArray]
      skip
      refine wpAnyH_take (i := 10) (v := ?_) rfl (by kernel_rfl) (by kernel_rfl) (by kernel_rfl) (fun _ _ _ h => h) (Or.inl ⟨by rfl, ?_⟩) (by assumption) ?_
      rotate_left
      · (intro w hSw; try dsimp only at hSw); go_simp; try with_reducible rfl
      simp only [List.getElem_toArray, List.getElem_cons_zero, List.getElem_cons_succ, Act.put, List.setIfInBounds_toArray, List.set_cons_zero, List.set_cons_succ]
      refine wpAnyH_law 11 (by kernel_rfl) rfl rfl (wp_allocAgg 24 rfl #[.int .i64 0, .int .i64 0, .slice none 0 0] (by kernel_rfl) ?_)
      have hx24 := hx23.trans (Ext.alloc w3 (.cells #[.int .i64 0, .int .i64 0, .slice none 0 0] 24))
      refine ⟨hx24, ?_⟩
      refine wpAnyH_law 12 (by kernel_rfl) rfl rfl (wp_storeK 24 _ _ rfl w3.heap.size _ rfl rfl 24 _ (heap_alloc_new _ _) (by kernel_rfl) (by kernel_rfl) (by kernel_rfl) W2 hx24 hx23.size ?_)
      intro w4 hx4 hg4 hk4
      refine ⟨hx4, ?_⟩
      refine wpAnyH_done (by kernel_rfl) ?_ _
      have HR4 := Lib.hid hg4
      have hne := own_lt hown3 (Nat.le_refl w3.heap.size)
      have HO4 := Lib.hid (own_off (own_extN hown3' (Ext.alloc w3 _)) hk4 hne)
      clear hg4 hk4 hown3 hown3' hcur hpw
      go_wp2_with fail
      go_meet
      exact ⟨w3.heap.size, WD.heap.size, rfl, HR4.out, by rw [filled_zero, HLB.out]; exact HO4.out, fun e => hne (by rw [e]; rfl), hx23.size, hx4⟩
    · have hx23 := hcur.trans (Ext.alloc WD (.cells #[.int .i64 0, .int .i64 0, .slice none 0 0] 24))
      refine ⟨hx23, ?_⟩
      have HGA := Lib.hid (heap_alloc_new WD (.cells #[.int .i64 0, .int .i64 0, .slice none 0 0] 24))
      have HSA := Lib.hid (World.size_alloc WD (.cells #[.int .i64 0, .int .i64 0, .slice none 0 0] 24))
      generalize WD.alloc (.cells #[.int .i64 0, .int .i64 0, .slice none 0 0] 24) = WA at hx23 HGA HSA ⊢
      refine wpAnyH_law 9 (by kernel_rfl) rfl rfl (wp_make _ _ 22 rfl 4 (.bool false) 1 Try.infoBool' rfl Try.underlying22 _ _ _ _ rfl rfl Q Q (by first | rfl | exact HPW.out) (by first | rfl | exact HPW.out) (Nat.le_refl _) (by omega) (by omega) ?_)
      intro w3 hown3 hx3
      have hx24 : Ext W2 w3 := hx23.trans hx3
      refine ⟨hx24, ?_⟩
      have hne : (Value.slice (some ⟨WA.heap.size, 0, none⟩) Q Q).ownBlock ≠ some WD.heap.size := fun e => by have := HSA.out; simp [Value.ownBlock] at e; omega
      have HG3 := Lib.hid (hx3.old HGA.out)
      have hown3' := own_base hown3 hx23.size
      have hb := hcur.size
      simp only [Act.put, List.setIfInBounds_toArray]
      skip
      refine wpAnyH_take (i := 10) (v := ?_) rfl (by kernel_rfl) (by kernel_rfl) (by kernel_rfl) (fun _ _ _ h => h) (Or.inl ⟨by rfl, ?_⟩) (by assumption) ?_
      rotate_left
      · (intro w hSw; try dsimp only at hSw); go_simp; try with_reducible rfl
      simp only [List.getElem_toArray, List.getElem_cons_zero, List.getElem_cons_succ, Act.put, List.setIfInBounds_toArray, List.set_cons_zero, List.set_cons_succ]
      refine wpAnyH_law 12 (by kernel_rfl) rfl rfl (wp_storeK 24 _ _ rfl WD.heap.size _ rfl rfl 24 _ HG3.out (by kernel_rfl) (by kernel_rfl) (by kernel_rfl) W2 hx24 hb ?_)
      intro w4 hx4 hg4 hk4
      refine ⟨hx4, ?_⟩
      refine wpAnyH_done (by kernel_rfl) ?_ _
      have HR4 := Lib.hid hg4
      have HO4 := Lib.hid (own_off hown3' hk4 hne)
      clear hg4 hk4 hown3 hown3' hcur hpw
      go_wp2_with fail
      go_meet
      exact ⟨WD.heap.size, WA.heap.size, rfl, HR4.out, by rw [filled_zero, HLB.out]; exact HO4.out, fun e => hne (by rw [← e]; rfl), hb, hx4⟩
  case rest =>
    obtain ⟨g, h, rfl, hg, hown, hne, hgB, hx⟩ := hcut
    have HG := Lib.hid hg
    have HOWN := Lib.hid hown
    have HX := Lib.hid hx
    have HNE := Lib.hid hne
    have HHB : Hid (W2.heap.size ≤ h ∧ h < wc.heap.size) := by
      obtain ⟨h', c', e, hb, hl, _⟩ := own_ptr hown (by omega)
      simp only [Value.slice.injEq, Option.some.injEq, Addr.mk.injEq, and_true, true_and] at e
      rw [e.1]
      exact ⟨hb, hl⟩
    clear hg hown hne
    obtain ⟨z0, z1, z2⟩ := HBX.out wc hx
    clear hx
    go_wp2_with fail
    refine (HCE _ (HR.out.ext (HX2.out.trans HX.out))).out.mono ?_
    rintro e w3 ⟨s3, rfl, hown3, hx3⟩
    rw [HLEN.out] at hown3
    obtain ⟨gc, cc, rfl, hgc, -, hcc, hcm⟩ := own_ptr hown3 (by omega)
    have HCO := Lib.hid hown3
    have HOWN3 := Lib.hid (own_extN HOWN.out hx3)
    have HG3 := Lib.hid (hx3.old HG.out)
    have HX3 := Lib.hid (HX.out.trans hx3)
    have HNC : Hid ((Value.slice (some ⟨gc, 0, none⟩) Q cc).ownBlock ≠ some h) := fun e => by have := HHB.out; simp [Value.ownBlock] at e; omega
    clear hown3 hx3 HOWN HG HX z0 z1 z2
    go_wp2_with fail
    go_loopw [4, 5, 20] (fun _ _ ii wr => ∃ i : Nat, i ≤ Q ∧ ii = .int .i64 i ∧ Hid (wr.ownsRow W2.heap.size 4 1 (.slice (some ⟨h, 0, none⟩) Q Q) Q (filled BL (.bool false) i)) ∧ Hid (wr.heap[g]? = some (.cells #[.int .i64 k, .int .i64 k, .slice (some ⟨h, 0, none⟩) Q Q] 24 (0, 0))) ∧ Hid (wr.ownsRow wc.heap.size 55 1 (.slice (some ⟨gc, 0, none⟩) Q cc) Q C) ∧ Hid (Ext W2 wr)) (fun _ _ ii _ => Q - (intOf ii).toNat)
    case atStart => exact ⟨0, Nat.zero_le _, rfl, HOWN3, HG3, HCO, HX3⟩
    case round =>
      clear HOWN3 HG3 HCO HX3
      obtain ⟨i, hi, rfl, HOWN, HG, HCO, HX⟩ := hrel
      by_cases hlt : i < Q
      · obtain ⟨hmk, hdk⟩ := HDM.out i hlt
        have HP := HDK i hlt
        have HA := HAT i hlt
        have HB := HBT i hlt
        have hk0 : ¬ k = 0 := by omega
        have hM : (i : Int).tmod (k : Int) = ((i % k : Nat) : Int) := rfl
        have hD : (i : Int).tdiv (k : Int) = ((i / k : Nat) : Int) := rfl
        generalize i % k = M at HP HA HB hM hmk
        generalize i / k = D at HP HA HB hD hdk
        generalize pur n k L M D = PC at HP HA HB
        generalize darkV PC k M D (alP L k M D).1 = DV at HP HB
        obtain ⟨y0, y1⟩ := own_cell HCO.out i _ HA.out
        have hWD : IntKind.i64.wrap ((D : Nat) : Int) = (D : Int) := wrap_i64_nat D (by omega)
        have HMM := Lib.hid hM
        have HDD := Lib.hid hD
        clear hM hD y1
        go_upto_region 5 with fail
        have hM := HMM.out
        have hD := HDD.out
        have b0 := fun V (h : Ext W2 V ∧ V.heap[g]? = some (.cells #[.int .i64 k, .int .i64 k, .slice (some ⟨h, 0, none⟩) Q Q] 24 (0, 0))) => (HBX.out V h.1).1
        have b1 := fun V (h : Ext W2 V ∧ V.heap[g]? = some (.cells #[.int .i64 k, .int .i64 k, .slice (some ⟨h, 0, none⟩) Q Q] 24 (0, 0))) => (HBX.out V h.1).2.1
        have b2 := fun V (h : Ext W2 V ∧ V.heap[g]? = some (.cells #[.int .i64 k, .int .i64 k, .slice (some ⟨h, 0, none⟩) Q Q] 24 (0, 0))) => (HBX.out V h.1).2.2
        have b3 := fun V (h : Ext W2 V ∧ V.heap[g]? = some (.cells #[.int .i64 k, .int .i64 k, .slice (some ⟨h, 0, none⟩) Q Q] 24 (0, 0))) => (cells3 h.2).2.2
        refine wp_region_held_drew (S := fun V => Ext W2 V ∧ V.heap[g]? = some (.cells #[.int .i64 k, .int .i64 k, .slice (some ⟨h, 0, none⟩) Q Q] 24 (0, 0))) (by kernel_rfl) ⟨HX.out.trans (Ext.drew _), HG.out⟩ (fun hcur => ?_)
        skip
        refine wpAnyH_take (i := 0) (v := ?_) rfl (by kernel_rfl) (by kernel_rfl) (by kernel_rfl) (fun _ _ _ h => h) (Or.inl ⟨by rfl, ?_⟩) (by assumption) ?_
        rotate_left
        · (intro w hSw; try dsimp only at hSw); go_simp; try with_reducible rfl
        simp only [List.getElem_toArray, List.getElem_cons_zero, Act.put, List.setIfInBounds_toArray, List.set_cons_zero, List.set_cons_succ]
        skip
        refine wpAnyH_take (i := 1) (v := ?_) rfl (by kernel_rfl) (by kernel_rfl) (by kernel_rfl) (fun _ _ _ h => h) (Or.inl ⟨by rfl, ?_⟩) (by assumption) ?_
        rotate_left
        · (intro w hSw; try dsimp only at hSw); go_simp; try with_reducible rfl
        simp only [List.getElem_toArray, List.getElem_cons_zero, List.getElem_cons_succ, Act.put, List.setIfInBounds_toArray, List.set_cons_zero, List.set_cons_succ]
        skip
        refine wpAnyH_take (i := 2) (v := ?_) rfl (by kernel_rfl) (by kernel_rfl) (by kernel_rfl) (fun _ _ _ h => h) (Or.inl ⟨by rfl, ?_⟩) (by assumption) ?_
        rotate_left
        · (intro w hSw; try dsimp only at hSw); go_simp; try with_reducible rfl
        simp only [List.getElem_toArray, List.getElem_cons_zero, List.getElem_cons_succ, Act.put, List.setIfInBounds_toArray, List.set_cons_zero, List.set_cons_succ]
        skip
        refine wpAnyH_take (i := 3) (v := ?_) rfl (by kernel_rfl) (by kernel_rfl) (by kernel_rfl) (fun _ _ _ h => h) (Or.inl ⟨by rfl, ?_⟩) (by assumption) ?_
        rotate_left
        · (intro w hSw; try dsimp only at hSw); go_simp; try with_reducible rfl
        simp only [List.getElem_toArray, List.getElem_cons_zero, List.getElem_cons_succ, Act.put, List.setIfInBounds_toArray, List.set_cons_zero, List.set_cons_succ]
        skip
        refine wpAnyH_take (i := 4) (v := ?_) rfl (by kernel_rfl) (by kernel_rfl) (by kernel_rfl) (fun _ _ _ h => h) (Or.inl ⟨by rfl, ?_⟩) (by assumption) ?_
        rotate_left
        · (intro w hSw; try dsimp only at hSw); go_simp; try with_reducible rfl
        simp only [List.getElem_toArray, List.getElem_cons_zero, List.getElem_cons_succ, Act.put, List.setIfInBounds_toArray, List.set_cons_zero, List.set_cons_succ]
        skip
        refine wpAnyH_take (i := 5) (v := ?_) rfl (by kernel_rfl) (by kernel_rfl) (by kernel_rfl) (fun _ _ _ h => h) (Or.inl ⟨by rfl, ?_⟩) (by assumption) ?_
        rotate_left
        · (intro w hSw; try dsimp only at hSw); go_simp; try with_reducible rfl
        simp only [List.getElem_toArray, List.getElem_cons_zero, List.getElem_cons_succ, Act.put, List.setIfInBounds_toArray, List.set_cons_zero, List.set_cons_succ]
        skip
        refine wpAnyH_take (i := 6) (v := ?_) rfl (by kernel_rfl) (by kernel_rfl) (by kernel_rfl) (fun _ _ _ h => h) (Or.inl ⟨by rfl, ?_⟩) (by assumption) ?_
        rotate_left
        · (intro w hSw; try dsimp only at hSw); go_simp; try with_reducible rfl
        simp only [List.getElem_toArray, List.getElem_cons_zero, List.getElem_cons_succ, Act.put, List.setIfInBounds_toArray, List.set_cons_zero, List.set_cons_succ]
        skip
        refine wpAnyH_take (i := 7) (v := ?_) rfl (by kernel_rfl) (by kernel_rfl) (by kernel_rfl) (fun _ _ _ h => h) (Or.inl ⟨by rfl, ?_⟩) (by assumption) ?_
        rotate_left
        · (intro w hSw; try dsimp only at hSw); go_simp; try with_reducible rfl
        simp only [List.getElem_toArray, List.getElem_cons_zero, List.getElem_cons_succ, Act.put, List.setIfInBounds_toArray, List.set_cons_zero, List.set_cons_succ]
        skip
        refine wpAnyH_take (i := 8) (v := ?_) rfl (by kernel_rfl) (by kernel_rfl) (by kernel_rfl) (fun _ _ _ h => h) (Or.inl ⟨by rfl, ?_⟩) (by assumption) ?_
        rotate_left
        · (intro w hSw; try dsimp only at hSw); go_simp; try with_reducible rfl
        simp only [List.getElem_toArray, List.getElem_cons_zero, List.getElem_cons_succ, Act.put, List.setIfInBounds_toArray, List.set_cons_zero, List.set_cons_succ]
        skip
        refine wpAnyH_take (i := 9) (v := ?_) rfl (by kernel_rfl) (by kernel_rfl) (by kernel_rfl) (fun _ _ _ h => h) (Or.inl ⟨by rfl, ?_⟩) (by assumption) ?_
        rotate_left
        · (intro w hSw; try dsimp only at hSw); go_simp; try with_reducible rfl
        simp only [List.getElem_toArray, List.getElem_cons_zero, List.getElem_cons_succ, Act.put, List.setIfInBounds_toArray, List.set_cons_zero, List.set_cons_succ]
        skip
        refine wpAnyH_take (i := 10) (v := ?_) rfl (by kernel_rfl) (by kernel_rfl) (by kernel_rfl) (fun _ _ _ h => h) (Or.inl ⟨by rfl, ?_⟩) (by assumption) ?_
        rotate_left
        · (intro w hSw; try dsimp only at hSw); go_simp; try with_reducible rfl
        simp only [List.getElem_toArray, List.getElem_cons_zero, List.getElem_cons_succ, Act.put, List.setIfInBounds_toArray, List.set_cons_zero, List.set_cons_succ]
        skip
        refine wpAnyH_take (i := 11) (v := ?_) rfl (by kernel_rfl) (by kernel_rfl) (by kernel_rfl) (fun _ _ _ h => h) (Or.inl ⟨by rfl, ?_⟩) (by assumption) ?_
        rotate_left
        · (intro w hSw; try dsimp only at hSw); go_simp; try with_reducible rfl
        simp only [List.getElem_toArray, List.getElem_cons_zero, List.getElem_cons_succ, Act.put, List.setIfInBounds_toArray, List.set_cons_zero, List.set_cons_succ]
        skip
        refine wpAnyH_take (i := 12) (v := ?_) rfl (by kernel_rfl) (by kernel_rfl) (by kernel_rfl) (fun _ _ _ h => h) (Or.inl ⟨by rfl, ?_⟩) (by assumption) ?_
        rotate_left
        · (intro w hSw; try dsimp only at hSw); go_simp; try with_reducible rfl
        simp only [List.getElem_toArray, List.getElem_cons_zero, List.getElem_cons_succ, Act.put, List.setIfInBounds_toArray, List.set_cons_zero, List.set_cons_succ]
        refine wpAnyH_ready (rs := [13]) (by kernel_rfl) (by simp) ?_
        refine AllReadyH.cons rfl (fun K hK => ?_) AllReadyH.nil
        go_simp
        go_at_call 69
        (with_reducible refine (HP _ (HR.out.ext (HX2.out.trans hcur.1))).out.mono ?_)
        rintro e w4 ⟨rfl, hx4⟩
        have hx4w := (Ext.drew wr).trans hx4
        have hS4 : Ext W2 w4 ∧ w4.heap[g]? = some (.cells #[.int .i64 k, .int .i64 k, .slice (some ⟨h, 0, none⟩) Q Q] 24 (0, 0)) := ⟨hcur.1.trans hx4, hx4.old hcur.2⟩
        go_wp2_with fail
        refine hK.out _ _ hS4 (fun _ => ?_)
        clear hK K
        have hown4 := own_extN HOWN.out hx4w
        have hco4 := own_extN HCO.out hx4w
        obtain ⟨y2, y3⟩ := own_cell hown4 i _ (filled_at BL (.bool false) i (by rw [HLB.out]; exact hlt))
        skip
        refine wpAnyH_take (i := 14) (v := ?_) rfl (by kernel_rfl) (by kernel_rfl) (by kernel_rfl) (fun _ _ _ h => h) (Or.inl ⟨by rfl, ?_⟩) (by assumption) ?_
        rotate_left
        · (intro w hSw; try dsimp only at hSw); go_simp; try with_reducible rfl
        simp only [List.getElem_toArray, List.getElem_cons_zero, List.getElem_cons_succ, Act.put, List.setIfInBounds_toArray, List.set_cons_zero, List.set_cons_succ]
        refine wpAnyH_ready (rs := [15]) (by kernel_rfl) (by simp) ?_
        refine AllReadyH.cons rfl (fun K hK => ?_) AllReadyH.nil
        go_simp
        have hS5 : Ext W2 (w4.setCell ⟨h, i, none⟩ (.bool DV)) ∧ (w4.setCell ⟨h, i, none⟩ (.bool DV)).heap[g]? = some (.cells #[.int .i64 k, .int .i64 k, .slice (some ⟨h, 0, none⟩) Q Q] 24 (0, 0)) := ⟨hS4.1.set HHB.out.1 _ _, (heap_set _ _ _ _ _ HNE.out).trans hS4.2⟩
        refine hK.out _ _ hS5 (fun _ => ?_)
        clear hK K
        refine wpAnyH_done (by kernel_rfl) ?_ _
        have HO5 : Hid ((w4.setCell ⟨h, i, none⟩ (.bool DV)).ownsRow W2.heap.size 4 1 (.slice (some ⟨h, 0, none⟩) Q Q) Q (filled BL (.bool false) (i + 1))) := by
          have := own_set hown4 i (.bool DV)
          rw [filled_set BL _ _ i HB.out] at this
          exact this
        have HC5 := Lib.hid (own_off hco4 (fun k hk => heap_set w4 h i (.bool DV) k hk) HNC.out)
        have HS5 := Lib.hid hS5
        clear hS5 hS4 hown4 hco4 hx4 hx4w y0 y2 y3 b0 b1 b2 b3 hM hD hcur
        go_wp2_with fail
        refine ⟨⟨i + 1, by omega, by rw [Int.natCast_succ], HO5, HS5.out.2, HC5, HS5.out.1⟩, by simp [intOf]; omega⟩
      · obtain rfl : i = Q := by omega
        obtain ⟨z0, z1, z2⟩ := cells3 HG.out
        have HGR := Lib.hid (HG2.out wr HX.out)
        go_wp2_with ((with_reducible show wpList _ _ _ (⟨none, .store 24 _ _, _, _, _, _⟩ :: _) _ _); refine wpList_storeOwnK rfl 24 _ _ rfl (w.heap.size + 1) _ rfl rfl 24 _ HGR.out (by kernel_rfl) (by kernel_rfl) (by kernel_rfl) w (HX2.out.trans HX.out) (Nat.le_succ _) ?_; intro w4 HX4 HG4 HK4)
        refine bodyPost_ret (results_cellOne rfl _ w4 (w.heap.size + 1) 24 _ (0, 0) _ rfl HG4.out Try.underlying24 rfl (by kernel_rfl)) rfl ?_
        have h5 := HOWN.out
        rw [filled_all BL _ _ (by rw [HLB.out]; exact Nat.le_refl _)] at h5
        exact ⟨_, rfl, own_base (own_off h5 HK4.out (fun e => by have := HHB.out; have := HS2.out; simp [Value.ownBlock] at e; omega)) (by have := HS2.out; omega), HX4⟩

end Go.Proofs.Ytjkpdhcnklgfbaa

namespace Go.Proofs.Ytjkpdhcnklgfbaa
open Go.RowKit Go.Bs Go.Qrv Go.Lay

def blankRes (v : Int) : (Int × Int × List Bool) × Int := if inV v then ((sd v.toNat, sd v.toNat, blankN v.toNat), 0) else ((0, 0, []), 14)
theorem blankRes_1 {v : Nat} (h : inV v) : blankRes v = (((sd v : Int), (sd v : Int), blankN v), (0 : Int)) := by unfold blankRes; rw [if_pos h]; rfl
theorem blankRes_2 {v : Int} (h : ¬ inV v) : blankRes v = ((0, 0, []), 14) := by unfold blankRes; rw [if_neg h]


set_option maxRecDepth 20000 in
set_option maxHeartbeats 1000000 in
theorem blank_res (v : Int) (w : World) : Calls Try.prog 12 #[.int .i64 v] w (RetMat 4 w (blankRes v)) := by
  by_cases hv : inV v
  · obtain ⟨n, rfl, h1, h2⟩ := inV_nat hv
    rw [blankRes_1 hv]
    have HNL := Lib.hid (newLayout_1 n h1 h2)
    have HBL := fun (ao : Option Addr) (cap : Nat) (W : World) (h : Row W ao (ints (al n))) => Lib.hid (blank_any n h1 h2 ao cap W h)
    unfold RetMat
    unfold OwnMat at HBL
    unfold RetLay at HNL
    simp only
    clear hv
    generalize al n = L at HNL HBL
    generalize blankN n = BL at HBL ⊢
    generalize sd n = k at HNL HBL ⊢
    go_enter Try.func12, Try.ntmps12
    go_wp2_with fail
    refine (HNL.out _).mono ?_
    rintro e w1 ⟨ao, cap, rfl, hr1, hx1⟩
    have HR1 := Lib.hid hr1
    have HX1 := Lib.hid hx1
    clear hr1 hx1
    generalize L.length = m at HBL ⊢
    unfold layV at HBL ⊢
    go_wp2_with fail
    refine (HBL ao cap _ (HR1.out.ext (Ext.alloc _ _))).out.mono ?_
    rintro e w2 ⟨s, rfl, hown, hx2⟩
    have hX2 := HX1.out.trans ((Ext.alloc _ _).trans hx2)
    have HG := Lib.hid hX2.new
    have hn2 : s.ownBlock ≠ some w.heap.size := own_below hown (Nat.lt_of_lt_of_le (show w.heap.size < (w.alloc (.cells #[.int .i64 0, .int .i64 0, .slice none 0 0] 24)).heap.size by rw [World.size_alloc]; exact Nat.lt_succ_self _) (HX1.out.trans (Ext.alloc _ _)).size)
    have hbs : w.heap.size ≤ (w1.alloc (.cells #[.int .i64 n, .int .i64 k, .slice ao m cap] 69)).heap.size := ((Ext.alloc w _).trans (HX1.out.trans (Ext.alloc _ _))).size
    have HN2 := Lib.hid hn2
    obtain ⟨bo, bc, rfl, -, -, -, -⟩ := own_row hown
    have HOWN := Lib.hid (own_base hown hbs)
    have HX2 := Lib.hid ((Ext.alloc w _).trans hX2)
    clear hown hx2 hX2 hn2 hbs
    go_wp2_with ((with_reducible show wpList _ _ _ (⟨none, .store 24 _ _, _, _, _, _⟩ :: _) _ _); refine wpList_storeOwnK rfl 24 _ _ rfl w.heap.size _ rfl rfl 24 _ HG.out (by kernel_rfl) (by kernel_rfl) (by kernel_rfl) w HX2.out (Nat.le_refl _) ?_; intro w3 HX3 HG3 HK3)
    refine bodyPost_ret (results_cellSlot rfl _ w3 w.heap.size 24 _ (0, 0) _ rfl HG3.out Try.underlying24 rfl (by kernel_rfl)) rfl ?_
    exact ⟨_, rfl, own_off HOWN.out HK3.out HN2.out, HX3⟩
  · rw [blankRes_2 hv]
    have HNL := Lib.hid (newLayout_2 v hv)
    clear hv
    go_enter Try.func12, Try.ntmps12
    go_wp2_with fail
    refine (HNL.out _).mono ?_
    rintro e w1 ⟨rfl, hx1⟩
    have HG := Lib.hid ((hx1.trans (Ext.alloc w1 (.cells #[.int .i64 0, .int .i64 0, .slice none 0 0] 69))).new)
    have HX1 := Lib.hid ((Ext.alloc w _).trans (hx1.trans (Ext.alloc w1 (.cells #[.int .i64 0, .int .i64 0, .slice none 0 0] 69))))
    clear hx1
    go_wp2_with ((with_reducible show wpList _ _ _ (⟨none, .store 24 _ _, _, _, _, _⟩ :: _) _ _); refine wpList_storeOwnK rfl 24 _ _ rfl w.heap.size _ rfl rfl 24 _ HG.out (by kernel_rfl) (by kernel_rfl) (by kernel_rfl) w HX1.out (Nat.le_refl _) ?_; intro w3 HX3 HG3 HK3)
    refine bodyPost_ret (results_cellSlot rfl _ w3 w.heap.size 24 _ (0, 0) _ rfl HG3.out Try.underlying24 rfl (by kernel_rfl)) rfl ?_
    exact RetMat.nil _ _ _ _ HX3

set_option maxRecDepth 20000 in
set_option maxHeartbeats 2000000 in
theorem rblank_res (v : Int) (w : World) : Calls Try.prog 13 #[.int .i64 v] w (RetMat 4 w (blankRes v)) := by
  by_cases hv : inV v
  · obtain ⟨n, rfl, h1, h2⟩ := inV_nat hv
    rw [blankRes_1 hv]
    obtain ⟨a1, a2, a3⟩ := al_facts n h1 h2
    have hsb : 21 ≤ sd n ∧ sd n ≤ 177 := by unfold sd; omega
    have HSZ := Lib.hid (szRes_1 (v := (n : Int)) ⟨by omega, by omega⟩)
    have HAR := Lib.hid (alRes_1 (v := n) ⟨by omega, by omega⟩)
    have HSD : Hid ((17 + 4 * (n : Int)) = ((sd n : Nat) : Int)) := by unfold sd; show _ = _; omega
    have HDK := fun (i : Nat) (hi : i < sd n * sd n) (ao : Option Addr) (cap : Nat) (W : World) (h : Row W ao (ints (al n))) => Lib.hid (rdark_any n (sd n) ((i % sd n : Nat) : Int) ((i / sd n : Nat) : Int) (al n) ao cap W h (by omega) (fun a ha => by have := a2 a ha; omega) (by omega)
      (by have h := Nat.mod_lt i (show 0 < sd n by omega); generalize i % sd n = M at h ⊢; omega) (by have h := Nat.div_lt_of_lt_mul hi; generalize i / sd n = D at h ⊢; omega) a3 (ver_iff n))
    have HBT : ∀ (i : Nat) (hi : i < sd n * sd n), Hid ((bools (blankN n))[i]? = some (.bool (darkV (pur n (sd n) (al n) ((i % sd n : Nat) : Int) ((i / sd n : Nat) : Int)) (sd n) ((i % sd n : Nat) : Int) ((i / sd n : Nat) : Int) (alP (al n) (sd n) ((i % sd n : Nat) : Int) ((i / sd n : Nat) : Int)).1))) := fun i hi => blankN_at n i hi
    have HLB : Hid ((bools (blankN n)).length = sd n * sd n) := by rw [length_bools]; exact blankN_len n
    have hdm := fun (i : Nat) (hi : i < sd n * sd n) => (⟨Nat.mod_lt i (show 0 < sd n by omega), Nat.div_lt_of_lt_mul hi⟩ : i % sd n < sd n ∧ i / sd n < sd n)
    unfold RetMat
    simp only
    rw [blankN_len]
    clear hv a1 a2 a3
    generalize al n = L at HAR HDK HBT
    generalize bools (blankN n) = BL at HBT HLB ⊢
    generalize sd n = k at HSD hsb HDK HBT HLB hdm ⊢
    obtain ⟨Q, hQ⟩ : ∃ Q, k * k = Q := ⟨_, rfl⟩
    have hQb : 441 ≤ Q ∧ Q ≤ 31329 := by rw [← hQ]; exact ⟨Nat.mul_le_mul hsb.1 hsb.1, Nat.mul_le_mul hsb.2 hsb.2⟩
    have hpw : wrap64 ((k : Int) * (k : Int)) = (Q : Int) := by rw [← Int.natCast_mul, hQ]; exact IntWalk.wrap64_in _ ⟨by omega, by omega⟩
    rw [hQ] at HDK HBT HLB hdm ⊢
    have HPW := Lib.hid hpw
    have HDM := Lib.hid hdm
    clear hQ hpw hdm
    go_enter Try.func13, Try.ntmps13
    go_wp2_with fail
    refine (rsize_any _ _).mono ?_
    rw [HSZ.out]
    rintro e w' ⟨rfl, rfl⟩
    simp only [two]
    rw [HSD.out]
    go_wp2_with fail
    refine (raligns_any _ _).mono ?_
    rw [HAR.out]
    intro e w1 hret
    obtain ⟨b1, c1, rfl, hr1, hl1, hm1, _, hx1⟩ := hret.ints
    clear hret
    have HR1 := Lib.hid hr1
    have HX1 := Lib.hid ((Ext.alloc w _).trans hx1)
    have HG1 := Lib.hid hx1.new
    have HWS : Hid (w.heap.size < w1.heap.size) := Nat.lt_of_lt_of_le (by rw [World.size_alloc]; exact Nat.lt_succ_self _) hx1.size
    clear hr1 hx1
    simp only at hl1 ⊢
    generalize L.length = m at HDK hl1 ⊢
    have hpw := HPW.out
    go_wp2_with (at_make; refine wpList_make (ws := w1) rfl _ _ 22 rfl w1.heap.size 4 (.bool false) 1 Try.infoBool' rfl Try.underlying22 _ _ _ _ rfl rfl Q Q (by first | rfl | exact HPW.out) (by first | rfl | exact HPW.out) (Nat.le_refl _) (by omega) (by omega) (Below.refl _ _) (Nat.le_refl _) ?_; intro w2 hown2 hbel2 _; have HOWN2 := Lib.hid hown2; have HX2 : Hid (Ext w1 w2) := hbel2; clear hown2 hbel2)
    have HGN := Lib.hid (heap_alloc_new w2 (.cells #[.int .i64 k, .int .i64 k, .slice (some ⟨w1.heap.size, 0, none⟩) Q Q] 24))
    have HON := Lib.hid (own_extN HOWN2.out (Ext.alloc w2 (.cells #[.int .i64 k, .int .i64 k, .slice (some ⟨w1.heap.size, 0, none⟩) Q Q] 24)))
    have HXN := Lib.hid (HX2.out.trans (Ext.alloc w2 (.cells #[.int .i64 k, .int .i64 k, .slice (some ⟨w1.heap.size, 0, none⟩) Q Q] 24)))
    obtain ⟨g, hg⟩ : ∃ g, g = w2.heap.size := ⟨_, rfl⟩
    have HNE : Hid (g ≠ w1.heap.size) := by
      obtain ⟨h', c', e, hb, hl, _⟩ := own_ptr HOWN2.out (by omega)
      simp only [Value.slice.injEq, Option.some.injEq, Addr.mk.injEq, and_true, true_and] at e
      show _ ≠ _
      rw [hg]
      omega
    rw [← hg] at HGN ⊢
    have HGB : Hid (w1.heap.size ≤ g) := by rw [hg]; exact HX2.out.size
    clear hg
    go_loopw [9] (fun ii wr => ∃ i : Nat, i ≤ Q ∧ ii = .int .i64 i ∧ Hid (wr.ownsRow w1.heap.size 4 1 (.slice (some ⟨w1.heap.size, 0, none⟩) Q Q) Q (filled BL (.bool false) i)) ∧ Hid (wr.heap[g]? = some (.cells #[.int .i64 k, .int .i64 k, .slice (some ⟨w1.heap.size, 0, none⟩) Q Q] 24 (0, 0))) ∧ Hid (Ext w1 wr)) (fun ii _ => Q - (intOf ii).toNat)
    case atStart => exact ⟨0, Nat.zero_le _, rfl, by rw [filled_zero, HLB.out]; exact HON, HGN, HXN⟩
    case round =>
      clear HON HGN HXN HOWN2 HX2
      obtain ⟨i, hi, rfl, HOWN, HG, HX⟩ := hrel
      by_cases hlt : i < Q
      · obtain ⟨hmk, hdk⟩ := HDM.out i hlt
        have HP := HDK i hlt b1 c1
        have HB := HBT i hlt
        have hk0 : ¬ k = 0 := by omega
        have hM : (i : Int).tmod (k : Int) = ((i % k : Nat) : Int) := rfl
        have hD : (i : Int).tdiv (k : Int) = ((i / k : Nat) : Int) := rfl
        generalize i % k = M at HP HB hM hmk
        generalize i / k = D at HP HB hD hdk
        generalize darkV (pur n k L M D) k M D (alP L k M D).1 = DV at HP HB
        have hWD : IntKind.i64.wrap ((D : Nat) : Int) = (D : Int) := wrap_i64_nat D (by omega)
        have HMM := Lib.hid hM
        have HDD := Lib.hid hD
        clear hM hD
        go_upto_region 9 with fail
        have hM := HMM.out
        have hD := HDD.out
        have b3 := fun V (h : Ext w1 V ∧ V.heap[g]? = some (.cells #[.int .i64 k, .int .i64 k, .slice (some ⟨w1.heap.size, 0, none⟩) Q Q] 24 (0, 0))) => (cells3 h.2).2.2
        refine wp_region_held_drew (S := fun V => Ext w1 V ∧ V.heap[g]? = some (.cells #[.int .i64 k, .int .i64 k, .slice (some ⟨w1.heap.size, 0, none⟩) Q Q] 24 (0, 0))) (by kernel_rfl) ⟨HX.out.trans (Ext.drew _), HG.out⟩ (fun hcur => ?_)
        skip
        refine wpAnyH_take (i := 0) (v := ?_) rfl (by kernel_rfl) (by kernel_rfl) (by kernel_rfl) (fun _ _ _ h => h) (Or.inl ⟨by rfl, ?_⟩) (by assumption) ?_
        rotate_left
        · (intro w hSw; try dsimp only at hSw); go_simp; try with_reducible rfl
        simp only [List.getElem_toArray, List.getElem_cons_zero, Act.put, List.setIfInBounds_toArray, List.set_cons_zero, List.set_cons_succ]
        skip
        refine wpAnyH_take (i := 1) (v := ?_) rfl (by kernel_rfl) (by kernel_rfl) (by kernel_rfl) (fun _ _ _ h => h) (Or.inl ⟨by rfl, ?_⟩) (by assumption) ?_
        rotate_left
        · (intro w hSw; try dsimp only at hSw); go_simp; try with_reducible rfl
        simp only [List.getElem_toArray, List.getElem_cons_zero, List.getElem_cons_succ, Act.put, List.setIfInBounds_toArray, List.set_cons_zero, List.set_cons_succ]
        skip
        refine wpAnyH_take (i := 2) (v := ?_) rfl (by kernel_rfl) (by kernel_rfl) (by kernel_rfl) (fun _ _ _ h => h) (Or.inl ⟨by rfl, ?_⟩) (by assumption) ?_
        rotate_left
        · (intro w hSw; try dsimp only at hSw); go_simp; try with_reducible rfl
        simp only [List.getElem_toArray, List.getElem_cons_zero, List.getElem_cons_succ, Act.put, List.setIfInBounds_toArray, List.set_cons_zero, List.set_cons_succ]
        skip
        refine wpAnyH_take (i := 3) (v := ?_) rfl (by kernel_rfl) (by kernel_rfl) (by kernel_rfl) (fun _ _ _ h => h) (Or.inl ⟨by rfl, ?_⟩) (by assumption) ?_
        rotate_left
        · (intro w hSw; try dsimp only at hSw); go_simp; try with_reducible rfl
        simp only [List.getElem_toArray, List.getElem_cons_zero, List.getElem_cons_succ, Act.put, List.setIfInBounds_toArray, List.set_cons_zero, List.set_cons_succ]
        skip
        refine wpAnyH_take (i := 4) (v := ?_) rfl (by kernel_rfl) (by kernel_rfl) (by kernel_rfl) (fun _ _ _ h => h) (Or.inl ⟨by rfl, ?_⟩) (by assumption) ?_
        rotate_left
        · (intro w hSw; try dsimp only at hSw); go_simp; try with_reducible rfl
        simp only [List.getElem_toArray, List.getElem_cons_zero, List.getElem_cons_succ, Act.put, List.setIfInBounds_toArray, List.set_cons_zero, List.set_cons_succ]
        skip
        refine wpAnyH_take (i := 5) (v := ?_) rfl (by kernel_rfl) (by kernel_rfl) (by kernel_rfl) (fun _ _ _ h => h) (Or.inl ⟨by rfl, ?_⟩) (by assumption) ?_
        rotate_left
        · (intro w hSw; try dsimp only at hSw); go_simp; try with_reducible rfl
        simp only [List.getElem_toArray, List.getElem_cons_zero, List.getElem_cons_succ, Act.put, List.setIfInBounds_toArray, List.set_cons_zero, List.set_cons_succ]
        skip
        refine wpAnyH_take (i := 6) (v := ?_) rfl (by kernel_rfl) (by kernel_rfl) (by kernel_rfl) (fun _ _ _ h => h) (Or.inl ⟨by rfl, ?_⟩) (by assumption) ?_
        rotate_left
        · (intro w hSw; try dsimp only at hSw); go_simp; try with_reducible rfl
        simp only [List.getElem_toArray, List.getElem_cons_zero, List.getElem_cons_succ, Act.put, List.setIfInBounds_toArray, List.set_cons_zero, List.set_cons_succ]
        skip
        refine wpAnyH_take (i := 7) (v := ?_) rfl (by kernel_rfl) (by kernel_rfl) (by kernel_rfl) (fun _ _ _ h => h) (Or.inl ⟨by rfl, ?_⟩) (by assumption) ?_
        rotate_left
        · (intro w hSw; try dsimp only at hSw); go_simp; try with_reducible rfl
        simp only [List.getElem_toArray, List.getElem_cons_zero, List.getElem_cons_succ, Act.put, List.setIfInBounds_toArray, List.set_cons_zero, List.set_cons_succ]
        skip
        refine wpAnyH_take (i := 8) (v := ?_) rfl (by kernel_rfl) (by kernel_rfl) (by kernel_rfl) (fun _ _ _ h => h) (Or.inl ⟨by rfl, ?_⟩) (by assumption) ?_
        rotate_left
        · (intro w hSw; try dsimp only at hSw); go_simp; try with_reducible rfl
        simp only [List.getElem_toArray, List.getElem_cons_zero, List.getElem_cons_succ, Act.put, List.setIfInBounds_toArray, List.set_cons_zero, List.set_cons_succ]
        skip
        refine wpAnyH_take (i := 9) (v := ?_) rfl (by kernel_rfl) (by kernel_rfl) (by kernel_rfl) (fun _ _ _ h => h) (Or.inl ⟨by rfl, ?_⟩) (by assumption) ?_
        rotate_left
        · (intro w hSw; try dsimp only at hSw); go_simp; try with_reducible rfl
        simp only [List.getElem_toArray, List.getElem_cons_zero, List.getElem_cons_succ, Act.put, List.setIfInBounds_toArray, List.set_cons_zero, List.set_cons_succ]
        skip
        refine wpAnyH_take (i := 10) (v := ?_) rfl (by kernel_rfl) (by kernel_rfl) (by kernel_rfl) (fun _ _ _ h => h) (Or.inl ⟨by rfl, ?_⟩) (by assumption) ?_
        rotate_left
        · (intro w hSw; try dsimp only at hSw); go_simp; try with_reducible rfl
        simp only [List.getElem_toArray, List.getElem_cons_zero, List.getElem_cons_succ, Act.put, List.setIfInBounds_toArray, List.set_cons_zero, List.set_cons_succ]
        refine wpAnyH_ready (rs := [11]) (by kernel_rfl) (by simp) ?_
        refine AllReadyH.cons rfl (fun K hK => ?_) AllReadyH.nil
        go_simp
        go_at_call 39
        (with_reducible refine (HP _ (HR1.out.ext hcur.1)).out.mono ?_)
        rintro e w4 ⟨rfl, hx4⟩
        have hx4w := (Ext.drew wr).trans hx4
        have hS4 : Ext w1 w4 ∧ w4.heap[g]? = some (.cells #[.int .i64 k, .int .i64 k, .slice (some ⟨w1.heap.size, 0, none⟩) Q Q] 24 (0, 0)) := ⟨hcur.1.trans hx4, hx4.old hcur.2⟩
        go_wp2_with fail
        refine hK.out _ _ hS4 (fun _ => ?_)
        clear hK K
        have hown4 := own_extN HOWN.out hx4w
        obtain ⟨y2, y3⟩ := own_cell hown4 i _ (filled_at BL (.bool false) i (by rw [HLB.out]; exact hlt))
        skip
        refine wpAnyH_take (i := 12) (v := ?_) rfl (by kernel_rfl) (by kernel_rfl) (by kernel_rfl) (fun _ _ _ h => h) (Or.inl ⟨by rfl, ?_⟩) (by assumption) ?_
        rotate_left
        · (intro w hSw; try dsimp only at hSw); go_simp; try with_reducible rfl
        simp only [List.getElem_toArray, List.getElem_cons_zero, List.getElem_cons_succ, Act.put, List.setIfInBounds_toArray, List.set_cons_zero, List.set_cons_succ]
        refine wpAnyH_ready (rs := [13]) (by kernel_rfl) (by simp) ?_
        refine AllReadyH.cons rfl (fun K hK => ?_) AllReadyH.nil
        go_simp
        have hS5 : Ext w1 (w4.setCell ⟨w1.heap.size, i, none⟩ (.bool DV)) ∧ (w4.setCell ⟨w1.heap.size, i, none⟩ (.bool DV)).heap[g]? = some (.cells #[.int .i64 k, .int .i64 k, .slice (some ⟨w1.heap.size, 0, none⟩) Q Q] 24 (0, 0)) := ⟨hS4.1.set (Nat.le_refl _) _ _, (heap_set _ _ _ _ _ HNE.out).trans hS4.2⟩
        refine hK.out _ _ hS5 (fun _ => ?_)
        clear hK K
        refine wpAnyH_done (by kernel_rfl) ?_ _
        have HO5 : Hid ((w4.setCell ⟨w1.heap.size, i, none⟩ (.bool DV)).ownsRow w1.heap.size 4 1 (.slice (some ⟨w1.heap.size, 0, none⟩) Q Q) Q (filled BL (.bool false) (i + 1))) := by
          have := own_set hown4 i (.bool DV)
          rw [filled_set BL _ _ i HB.out] at this
          exact this
        have HS5 := Lib.hid hS5
        clear hS5 hS4 hown4 hx4 hx4w y2 y3 b3 hM hD hcur
        go_wp2_with fail
        refine ⟨⟨i + 1, by omega, by rw [Int.natCast_succ], HO5, HS5.out.2, HS5.out.1⟩, by simp [intOf]; omega⟩
      · obtain rfl : i = Q := by omega
        obtain ⟨z0, z1, z2⟩ := cells3 HG.out
        have HGR := Lib.hid (HX.out.old HG1.out)
        go_wp2_with ((with_reducible show wpList _ _ _ (⟨none, .store 24 _ _, _, _, _, _⟩ :: _) _ _); refine wpList_storeOwnK rfl 24 _ _ rfl w.heap.size _ rfl rfl 24 _ HGR.out (by kernel_rfl) (by kernel_rfl) (by kernel_rfl) w (HX1.out.trans HX.out) (Nat.le_refl _) ?_; intro w4 HX4 HG4 HK4)
        refine bodyPost_ret (results_cellSlot rfl _ w4 w.heap.size 24 _ (0, 0) _ rfl HG4.out Try.underlying24 rfl (by kernel_rfl)) rfl ?_
        have h5 := HOWN.out
        rw [filled_all BL _ _ (by rw [HLB.out]; exact Nat.le_refl _)] at h5
        exact ⟨_, rfl, own_base (own_off h5 HK4.out (fun e => by have := HWS.out; simp [Value.ownBlock] at e; omega)) (Nat.le_of_lt HWS.out), HX4⟩
  · rw [blankRes_2 hv]
    have HSZ := Lib.hid (szRes_2 hv)
    clear hv
    go_enter Try.func13, Try.ntmps13
    go_wp2_with fail
    refine (rsize_any _ _).mono ?_
    rw [HSZ.out]
    rintro e w' ⟨rfl, rfl⟩
    simp only [two]
    go_wp2_with ((with_reducible show wpList _ _ _ (⟨none, .store 24 _ _, _, _, _, _⟩ :: _) _ _); refine wpList_storeOwnK rfl 24 _ _ rfl w.heap.size _ rfl rfl 24 _ (heap_alloc_new _ _) (by kernel_rfl) (by kernel_rfl) (by kernel_rfl) w (Ext.alloc _ _) (Nat.le_refl _) ?_; intro w3 HX3 HG3 HK3)
    refine bodyPost_ret (results_cellSlot rfl _ w3 w.heap.size 24 _ (0, 0) _ rfl HG3.out Try.underlying24 rfl (by kernel_rfl)) rfl ?_
    exact RetMat.nil _ _ _ _ HX3

end Go.Proofs.Ytjkpdhcnklgfbaa

namespace Go.Proofs.Ytjkpdhcnklgfbaa
open Go.RowKit Go.Bs Go.Qrv Go.Lay

/-- A module of a function pattern. -/
def isPat (p : Int) : Bool := p == 2 || p == 4 || p == 3 || p == 7
def fltAt (n : Nat) (xs : List Bool) (i : Nat) : Bool := isPat (pur n (sd n) (al n) ((i % sd n : Nat) : Int) ((i / sd n : Nat) : Int)) && (xs.getD i false != dkAt n (i % sd n) (i / sd n))
def fltN (n : Nat) (xs : List Bool) (k : Nat) : Nat := ((List.range k).filter (fltAt n xs)).length
theorem fltN_succ (n : Nat) (xs : List Bool) (k : Nat) : fltN n xs (k + 1) = fltN n xs k + if fltAt n xs k = true then 1 else 0 := by
  unfold fltN
  rw [List.range_succ, List.filter_append, List.length_append]
  congr 1
  cases h : fltAt n xs k <;> simp [h]
theorem fltN_le (n : Nat) (xs : List Bool) (k : Nat) : fltN n xs k ≤ k := by
  unfold fltN
  have := List.length_filter_le (fltAt n xs) (List.range k)
  simpa using this
theorem bools_getD (xs : List Bool) (i : Nat) (h : i < xs.length) : (bools xs)[i]? = some (.bool (xs.getD i false)) := by
  rw [bools_at xs i h, List.getD_eq_getElem?_getD, List.getElem?_eq_getElem h]
  rfl
theorem pat_cases {p : Int} (h : p = 2 ∨ p = 4 ∨ p = 3 ∨ p = 7 ∨ p = 5 ∨ p = 6 ∨ p = 1) : (isPat p = true ∧ (p = 2 ∨ p = 4 ∨ p = 3 ∨ p = 7)) ∨ (isPat p = false ∧ (p = 5 ∨ p = 6 ∨ p = 1)) := by
  rcases h with rfl | rfl | rfl | rfl | rfl | rfl | rfl
  · exact .inl ⟨rfl, .inl rfl⟩
  · exact .inl ⟨rfl, .inr (.inl rfl)⟩
  · exact .inl ⟨rfl, .inr (.inr (.inl rfl))⟩
  · exact .inl ⟨rfl, .inr (.inr (.inr rfl))⟩
  · exact .inr ⟨rfl, .inl rfl⟩
  · exact .inr ⟨rfl, .inr (.inl rfl)⟩
  · exact .inr ⟨rfl, .inr (.inr rfl)⟩

set_option maxRecDepth 20000 in
set_option maxHeartbeats 1000000 in
theorem faults_no (W H : Int) (ao : Option Addr) (n cap : Nat) (w : World) (hc : mcode W H n ≠ 0) :
    Calls Try.prog 14 #[.agg (matV W H ao n cap)] w fun e w' => e = .returned (two (0, mcode W H n)) ∧ Ext w w' := by
  have HLO := fun (V : World) => Lib.hid (layoutOf_no W H ao n cap V hc)
  have hc' : (mcode W H n != 0) = true := by simpa using hc
  unfold RetNoLay at HLO
  unfold matV two at *
  simp only at HLO ⊢
  clear hc
  generalize mcode W H n = C at HLO hc' ⊢
  go_enter Try.func14, Try.ntmps14
  go_wp2_with fail
  refine (HLO _).out.mono ?_
  rintro e w1 ⟨rfl, hx1⟩
  have HX1 := Lib.hid ((Ext.alloc w _).trans hx1)
  clear hx1
  go_wp2_with fail
  go_ret2
  exact ⟨rfl, HX1.out.trans (Ext.alloc _ _)⟩

set_option maxRecDepth 20000 in
set_option maxHeartbeats 1000000 in
theorem rfaults_no (W H : Int) (ao : Option Addr) (n cap : Nat) (w : World) (hc : mcode W H n ≠ 0) :
    Calls Try.prog 15 #[.agg (matV W H ao n cap)] w fun e w' => e = .returned (two (0, mcode W H n)) ∧ Ext w w' := by
  have HLO := fun (V : World) => Lib.hid (rversion20_no W H ao n cap V hc)
  have hc' : (mcode W H n != 0) = true := by simpa using hc
  unfold matV two at *
  simp only at HLO ⊢
  clear hc
  generalize mcode W H n = C at HLO hc' ⊢
  go_enter Try.func15, Try.ntmps15
  go_wp2_with fail
  refine (HLO _).out.mono ?_
  rintro e w1 ⟨rfl, hx1⟩
  have HX1 := Lib.hid ((Ext.alloc w _).trans hx1)
  clear hx1
  go_wp2_with fail
  go_ret2
  exact ⟨rfl, HX1.out⟩

set_option maxRecDepth 20000 in
set_option maxHeartbeats 2000000 in
theorem faults_ok (n : Nat) (h1 : 1 ≤ n) (h2 : n ≤ 40) (xs : List Bool) (ao : Option Addr) (cap : Nat) (w : World) (hl : xs.length = sd n * sd n) (hcap : sd n * sd n ≤ cap) (hr : Row w ao (bools xs)) :
    Calls Try.prog 14 #[.agg (matV (sd n) (sd n) ao (sd n * sd n) cap)] w fun e w' => e = .returned (two (fltN n xs (sd n * sd n), 0)) ∧ Ext w w' := by
  obtain ⟨a1, a2, a3⟩ := al_facts n h1 h2
  have hsb : 21 ≤ sd n ∧ sd n ≤ 177 := by unfold sd; omega
  have HLO := fun (V : World) => Lib.hid (layoutOf_ok n h1 h2 ao cap V)
  have HBL := fun (bo : Option Addr) (bc : Nat) (V : World) (h : Row V bo (ints (al n))) => Lib.hid (blank_any n h1 h2 bo bc V h)
  have HCE := fun (bo : Option Addr) (bc : Nat) (V : World) (h : Row V bo (ints (al n))) => Lib.hid (cells_own n (sd n) (al n) bo bc V h (by omega) (fun a ha => by have := a2 a ha; omega) (by omega) (by omega))
  have HCN : Hid (cellsL n (sd n) (al n) (sd n * sd n) = cellsN n) := rfl
  rw [HCN.out] at HCE
  have HAT := fun (i : Nat) (hi : i < sd n * sd n) => Lib.hid (cellsN_at n i hi)
  have HBT := fun (i : Nat) (hi : i < sd n * sd n) => Lib.hid (blankN_at n i hi)
  have HXT := fun (i : Nat) (hi : i < sd n * sd n) => Lib.hid (bools_getD xs i (by omega))
  have HPP := fun (i : Nat) => Lib.hid (pur_p n (sd n) (al n) ((i % sd n : Nat) : Int) ((i / sd n : Nat) : Int))
  have HFS := fun (i : Nat) => Lib.hid (fltN_succ n xs i)
  have HFE : ∀ i, Hid (fltAt n xs i = (isPat (pur n (sd n) (al n) ((i % sd n : Nat) : Int) ((i / sd n : Nat) : Int)) && (xs.getD i false != dkAt n (i % sd n) (i / sd n)))) := fun i => rfl
  have HFL := fun (i : Nat) => Lib.hid (fltN_le n xs i)
  have HF0 : Hid (fltN n xs 0 = 0) := rfl
  have HLEN := Lib.hid (cellsN_len n)
  have HR := Lib.hid hr
  unfold OwnMat at HBL
  unfold RetLay at HLO
  unfold matV two at *
  rw [blankN_len] at HBL
  clear a1 a2 a3 hr HCN
  have hQb : 441 ≤ sd n * sd n ∧ sd n * sd n ≤ 31329 := ⟨Nat.mul_le_mul hsb.1 hsb.1, Nat.mul_le_mul hsb.2 hsb.2⟩
  generalize ints (cellsN n) = C at HCE HLEN HAT
  generalize bools (blankN n) = BL at HBT HBL
  generalize sd n * sd n = Q at *
  go_enter Try.func14, Try.ntmps14
  go_wp2_with fail
  refine (HLO _).out.mono ?_
  rintro e w1 ⟨bo, bc, rfl, hr1, hx1⟩
  have HR1 := Lib.hid hr1
  have HX1 := Lib.hid hx1
  clear hr1 hx1
  generalize (al n).length = m at HBL HCE ⊢
  generalize sd n = k at *
  unfold layV at *
  go_wp2_with fail
  refine (HBL bo bc _ (HR1.out.ext (Ext.alloc _ _))).out.mono ?_
  rintro e w2 ⟨s2, rfl, hown2, hx2⟩
  obtain ⟨gb, cb, rfl, -, -, hcb, hcm⟩ := own_ptr hown2 (by omega)
  obtain ⟨_, _, he, -, -, -, hrb⟩ := own_row hown2
  simp only [Value.slice.injEq] at he
  rw [← he.1] at hrb
  have HRB := Lib.hid hrb
  have HX2 : Hid (Ext w2 w2) := Ext.refl _
  have HX2w := Lib.hid ((Ext.alloc w (.cells #[.int .i64 k, .int .i64 k, .slice ao Q cap] 24)).trans (HX1.out.trans ((Ext.alloc _ _).trans hx2)))
  have HMB := Lib.hid (HX1.out.trans ((Ext.alloc w1 (.cells #[.int .i64 n, .int .i64 k, .slice bo m bc] 69)).trans hx2))
  have HL2 := Lib.hid hx2
  clear hown2 he hrb hx2
  obtain ⟨z0, z1, z2⟩ := box3 HL2.out
  have hz1 : w1.heap.size < w2.heap.size := Nat.lt_of_lt_of_le (by rw [World.size_alloc]; exact Nat.lt_succ_self _) HL2.out.size
  go_wp2_with fail
  refine (HCE bo bc _ (HR1.out.ext ((Ext.alloc w1 _).trans (HL2.out.trans (Ext.alloc _ _))))).out.mono ?_
  rintro e w3 ⟨s3, rfl, hown3, hx3⟩
  rw [HLEN.out] at hown3
  obtain ⟨gc, cc, rfl, -, -, hcc, hcm3⟩ := own_ptr hown3 (by omega)
  obtain ⟨_, _, he, -, -, -, hrc⟩ := own_row hown3
  simp only [Value.slice.injEq] at he
  rw [← he.1] at hrc
  have HRC := Lib.hid hrc
  have HX3 := Lib.hid hx3
  clear hown3 he hrc hx3 z0 z1 z2 hz1
  go_wp2_with fail
  go_loopw [7, 8, 9, 23] (fun cc _ _ ii wr => ∃ i : Nat, i ≤ Q ∧ ii = .int .i64 i ∧ cc = .int .i64 (fltN n xs i) ∧ Hid (Ext w3 wr)) (fun _ _ _ ii _ => Q - (intOf ii).toNat)
  case atStart => exact ⟨0, Nat.zero_le _, rfl, by rw [HF0.out]; rfl, Ext.refl _⟩
  case round =>
    obtain ⟨i, hi, rfl, rfl, HX⟩ := hrel
    have HXw := Lib.hid ((HX2w.out.trans ((Ext.alloc w2 _).trans HX3.out)).trans HX.out)
    by_cases hlt : i < Q
    · have HFi := HFS i
      have HEi := HFE i
      have hfl := (HFL i).out
      have hpp := (HPP i).out
      have HA := HAT i hlt
      have HB := HBT i hlt
      have HC := HXT i hlt
      generalize dkAt n (i % k) (i / k) = DV at HEi HB
      generalize pur n k (al n) ((i % k : Nat) : Int) ((i / k : Nat) : Int) = PC at HEi HA hpp
      generalize xs.getD i false = XV at HEi HC
      generalize fltN n xs i = FN at HFi hfl ⊢
      obtain ⟨ac, hac, hcC⟩ := (HRC.out.ext HX.out).at HA.out
      obtain ⟨ab, hab, hcB⟩ := (HRB.out.ext ((Ext.alloc w2 _).trans (HX3.out.trans HX.out))).at HB.out
      obtain ⟨aa, rfl, hcA⟩ := (HR.out.ext HXw.out).at HC.out
      obtain rfl := Option.some.inj hac
      obtain rfl := Option.some.inj hab
      rw [add_zero_off] at hcC hcB
      obtain ⟨z0, z1, z2⟩ := box3 (((HMB.out.trans ((Ext.alloc w2 _).trans HX3.out)).trans HX.out))
      obtain ⟨y0, y1, y2⟩ := box3 (HX3.out.trans HX.out)
      clear hac hab
      have hq1 : (i : Int) < (Q : Int) := by omega
      rcases pat_cases hpp with ⟨hp, hpp2⟩ | ⟨hp, hpp2⟩
      · have hxd : (XV == DV) = false ∨ (XV == DV) = true := by cases XV == DV <;> simp
        rcases hxd with hxd | hxd
        · have HN : Hid (fltN n xs (i + 1) = FN + 1) := by show _ = _; rw [HFi.out, HEi.out, hp]; simp [bne, hxd]
          clear hpp hp
          rcases hpp2 with rfl | rfl | rfl | rfl
          all_goals
            go_wp2_with fail
            go_quiet (fail)
            go_wp2_with fail
            refine ⟨⟨i + 1, by omega, by rw [Int.natCast_succ], by rw [HN.out, Int.natCast_succ], HX.out.drewN _⟩, by simp [intOf]; omega⟩
        · have HN : Hid (fltN n xs (i + 1) = FN) := by show _ = _; rw [HFi.out, HEi.out, hp]; simp [bne, hxd]
          clear hpp hp
          rcases hpp2 with rfl | rfl | rfl | rfl
          all_goals
            go_wp2_with fail
            go_quiet (fail)
            go_wp2_with fail
            refine ⟨⟨i + 1, by omega, by rw [Int.natCast_succ], by rw [HN.out], HX.out.drewN _⟩, by simp [intOf]; omega⟩
      · have HN : Hid (fltN n xs (i + 1) = FN) := by show _ = _; rw [HFi.out, HEi.out, hp]; rfl
        clear hpp hp
        rcases hpp2 with rfl | rfl | rfl
        all_goals
          go_wp2_with fail
          refine ⟨⟨i + 1, by omega, by rw [Int.natCast_succ], by rw [HN.out], HX⟩, by simp [intOf]; omega⟩
    · obtain rfl : i = Q := by omega
      go_wp2_with fail
      go_ret2
      exact ⟨rfl, (Ext.alloc w _).trans (HMB.out.trans ((Ext.alloc w2 _).trans (HX3.out.trans HX.out)))⟩

set_option maxRecDepth 20000 in
set_option maxHeartbeats 2000000 in
theorem rfaults_ok (n : Nat) (h1 : 1 ≤ n) (h2 : n ≤ 40) (xs : List Bool) (ao : Option Addr) (cap : Nat) (w : World) (hl : xs.length = sd n * sd n) (hcap : sd n * sd n ≤ cap) (hr : Row w ao (bools xs)) :
    Calls Try.prog 15 #[.agg (matV (sd n) (sd n) ao (sd n * sd n) cap)] w fun e w' => e = .returned (two (fltN n xs (sd n * sd n), 0)) ∧ Ext w w' := by
  have hsb : 21 ≤ sd n ∧ sd n ≤ 177 := by unfold sd; omega
  have hin : inV n := ⟨by omega, by omega⟩
  have HLO := fun (V : World) => Lib.hid (rversion20_ok n h1 h2 ao cap V)
  have HBL := fun (V : World) => Lib.hid (rblank_res n V)
  have HCE := fun (V : World) => Lib.hid (rcells_res n V)
  rw [blankRes_1 hin] at HBL
  rw [cellsRes_1 hin] at HCE
  have HAT := fun (i : Nat) (hi : i < sd n * sd n) => Lib.hid (cellsN_at n i hi)
  have HBT := fun (i : Nat) (hi : i < sd n * sd n) => Lib.hid (blankN_at n i hi)
  have HXT := fun (i : Nat) (hi : i < sd n * sd n) => Lib.hid (bools_getD xs i (by omega))
  have HPP := fun (i : Nat) => Lib.hid (pur_p n (sd n) (al n) ((i % sd n : Nat) : Int) ((i / sd n : Nat) : Int))
  have HFS := fun (i : Nat) => Lib.hid (fltN_succ n xs i)
  have HFE : ∀ i, Hid (fltAt n xs i = (isPat (pur n (sd n) (al n) ((i % sd n : Nat) : Int) ((i / sd n : Nat) : Int)) && (xs.getD i false != dkAt n (i % sd n) (i / sd n)))) := fun i => rfl
  have HFL := fun (i : Nat) => Lib.hid (fltN_le n xs i)
  have HF0 : Hid (fltN n xs 0 = 0) := rfl
  have HLEN := Lib.hid (cellsN_len n)
  have HR := Lib.hid hr
  unfold RetMat at HBL
  unfold RetSl at HCE
  unfold matV two at *
  simp only at HBL HCE HLO ⊢
  rw [blankN_len] at HBL
  rw [cellsN_len] at HCE
  clear hr hin
  have hQb : 441 ≤ sd n * sd n ∧ sd n * sd n ≤ 31329 := ⟨Nat.mul_le_mul hsb.1 hsb.1, Nat.mul_le_mul hsb.2 hsb.2⟩
  generalize ints (cellsN n) = C at HCE HLEN HAT
  generalize bools (blankN n) = BL at HBT HBL
  generalize sd n * sd n = Q at *
  generalize sd n = k at *
  go_enter Try.func15, Try.ntmps15
  go_wp2_with fail
  refine (HLO _).out.mono ?_
  rintro e w1 ⟨rfl, hx1⟩
  have HX1 := Lib.hid hx1
  clear hx1
  go_wp2_with fail
  refine (HBL _).out.mono ?_
  rintro e w2 ⟨s2, rfl, hown2, hx2⟩
  obtain ⟨gb, cb, rfl, -, -, hcb, hcm⟩ := own_ptr hown2 (by omega)
  obtain ⟨_, _, he, -, -, -, hrb⟩ := own_row hown2
  simp only [Value.slice.injEq] at he
  rw [← he.1] at hrb
  have HRB := Lib.hid hrb
  have HMB := Lib.hid (HX1.out.trans hx2)
  clear hown2 he hrb hx2
  go_wp2_with fail
  refine (HCE _).out.mono ?_
  rintro e w3 ⟨sc, cc, rfl, hrc, hcc, hcm3, -, hx3⟩
  have HRC := Lib.hid hrc
  have HX3 := Lib.hid hx3
  clear hrc hx3
  go_wp2_with fail
  go_loopw [10, 11, 12] (fun cc ii _ wr => ∃ i : Nat, i ≤ Q ∧ ii = .int .i64 i ∧ cc = .int .i64 (fltN n xs i) ∧ Hid (Ext w3 wr)) (fun _ ii _ _ => Q - (intOf ii).toNat)
  case atStart => exact ⟨0, Nat.zero_le _, rfl, by rw [HF0.out]; rfl, Ext.refl _⟩
  case round =>
    obtain ⟨i, hi, rfl, rfl, HX⟩ := hrel
    have HXw := Lib.hid (((Ext.alloc w (.cells #[.int .i64 k, .int .i64 k, .slice ao Q cap] 24)).trans (HMB.out.trans ((Ext.alloc w2 _).trans HX3.out))).trans HX.out)
    by_cases hlt : i < Q
    · have HFi := HFS i
      have HEi := HFE i
      have hfl := (HFL i).out
      have hpp := (HPP i).out
      have HA := HAT i hlt
      have HB := HBT i hlt
      have HC := HXT i hlt
      generalize dkAt n (i % k) (i / k) = DV at HEi HB
      generalize pur n k (al n) ((i % k : Nat) : Int) ((i / k : Nat) : Int) = PC at HEi HA hpp
      generalize xs.getD i false = XV at HEi HC
      generalize fltN n xs i = FN at HFi hfl ⊢
      obtain ⟨ac, rfl, hcC⟩ := (HRC.out.ext HX.out).at HA.out
      obtain ⟨ab, hab, hcB⟩ := (HRB.out.ext ((Ext.alloc w2 _).trans (HX3.out.trans HX.out))).at HB.out
      obtain ⟨aa, rfl, hcA⟩ := (HR.out.ext HXw.out).at HC.out
      obtain rfl := Option.some.inj hab
      rw [add_zero_off] at hcB
      obtain ⟨z0, z1, z2⟩ := box3 (((HMB.out.trans ((Ext.alloc w2 _).trans HX3.out)).trans HX.out))
      obtain ⟨y0, y1, y2⟩ := box3 (HX3.out.trans HX.out)
      clear hab
      have hq1 : (i : Int) < (Q : Int) := by omega
      rcases pat_cases hpp with ⟨hp, hpp2⟩ | ⟨hp, hpp2⟩
      · have hxd : (XV == DV) = false ∨ (XV == DV) = true := by cases XV == DV <;> simp
        rcases hxd with hxd | hxd
        · have HN : Hid (fltN n xs (i + 1) = FN + 1) := by show _ = _; rw [HFi.out, HEi.out, hp]; simp [bne, hxd]
          clear hpp hp
          rcases hpp2 with rfl | rfl | rfl | rfl
          all_goals
            go_wp2_with fail
            go_quiet (fail)
            go_wp2_with fail
            refine ⟨⟨i + 1, by omega, by rw [Int.natCast_succ], by rw [HN.out, Int.natCast_succ], HX.out.drewN _⟩, by simp [intOf]; omega⟩
        · have HN : Hid (fltN n xs (i + 1) = FN) := by show _ = _; rw [HFi.out, HEi.out, hp]; simp [bne, hxd]
          clear hpp hp
          rcases hpp2 with rfl | rfl | rfl | rfl
          all_goals
            go_wp2_with fail
            go_quiet (fail)
            go_wp2_with fail
            refine ⟨⟨i + 1, by omega, by rw [Int.natCast_succ], by rw [HN.out], HX.out.drewN _⟩, by simp [intOf]; omega⟩
      · have HN : Hid (fltN n xs (i + 1) = FN) := by show _ = _; rw [HFi.out, HEi.out, hp]; rfl
        clear hpp hp
        rcases hpp2 with rfl | rfl | rfl
        all_goals
          go_wp2_with fail
          go_quiet (fail)
          go_wp2_with fail
          refine ⟨⟨i + 1, by omega, by rw [Int.natCast_succ], by rw [HN.out], HX.out.drewN _⟩, by simp [intOf]; omega⟩
    · obtain rfl : i = Q := by omega
      go_wp2_with fail
      go_ret2
      exact ⟨rfl, HXw.out⟩

end Go.Proofs.Ytjkpdhcnklgfbaa
