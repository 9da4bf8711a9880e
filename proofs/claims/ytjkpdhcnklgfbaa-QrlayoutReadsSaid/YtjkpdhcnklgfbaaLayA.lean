/-
  The contracts of qrlayout's near, align, distance, index, purpose.
  Conditions: a layout's slice holds its alignment coordinates; small numbers.
-/
import Derived.Test.YtjkpdhcnklgfbaaLayPlain
import Derived.Test.YtjkpdhcnklgfbaaRows
import Derived.Test.YtjkpdhcnklgfbaaTabR
import Derived.Test.YtjkpdhcnklgfbaaRet
import Derived.Test.YtjkpdhcnklgfbaaNum
namespace Go.Proofs.Ytjkpdhcnklgfbaa
open Go.RowKit Go.Bs Go.Qrv Go.Lay

/-- A layout's value. -/
def layV (v s : Int) (ao : Option Addr) (n cap : Nat) : Array Value := #[.int .i64 v, .int .i64 s, .slice ao n cap]

set_option maxRecDepth 20000 in
set_option maxHeartbeats 800000 in
theorem near_any (v s x : Int) (l : List Int) (ao : Option Addr) (cap : Nat) (w : World) (hr : Row w ao (ints l)) (hn : l.length ≤ 1000) (hb : ∀ a ∈ l, 0 ≤ a ∧ a ≤ 1000) (hx : 0 ≤ x ∧ x ≤ 1000) :
    Calls Try.prog 94 #[.agg (layV v s ao l.length cap), .int .i64 x] w fun e w' => e = .returned (.tuple #[.int .i64 (near1 l x).1, .bool (near1 l x).2]) ∧ Ext w w' := by
  obtain ⟨n, hnl⟩ : ∃ n, n = l.length := ⟨_, rfl⟩
  have HN := Lib.hid hnl
  obtain ⟨R, hR⟩ : ∃ R, R = near1 l x := ⟨_, rfl⟩
  have HR0 : Hid (near1 (l.drop 0) x = R) := by rw [hR]; rfl
  rw [← hR]
  rw [← hnl] at hn ⊢
  have HR := Lib.hid hr
  have HB := Lib.hid hb
  clear hr hb hnl hR
  obtain ⟨ra, rb⟩ := R
  unfold layV
  go_enter Try.func94, Try.ntmps94
  go_wp2_with fail
  go_loopw [7, 11] (fun _ i wr => ∃ k : Nat, k ≤ n ∧ i = .int .i64 k ∧ Hid (near1 (l.drop k) x = (ra, rb)) ∧ Hid (Ext w wr)) (fun _ i _ => n - (intOf i).toNat)
  case atStart => exact ⟨0, Nat.zero_le _, rfl, HR0, Ext.alloc _ _⟩
  case round =>
    clear HR0
    obtain ⟨k, hk, rfl, HK, HX⟩ := hrel
    by_cases hlt : k < n
    · have hkl : k < l.length := by rw [← HN.out]; exact hlt
      obtain ⟨a, rfl, hc⟩ := (HR.out.ext HX.out).at (ints_at l k hkl)
      have hbd := HB.out l[k] (List.getElem_mem hkl)
      have HK2 := HK.out
      rw [List.drop_eq_getElem_cons hkl] at HK2
      unfold near1 at HK2
      obtain ⟨A, hA⟩ : ∃ A, A = l[k] := ⟨_, rfl⟩
      rw [← hA] at hc hbd HK2
      clear hA
      have hcs : x - A < -2 ∨ (-2 ≤ x - A ∧ 2 < x - A) ∨ (-2 ≤ x - A ∧ x - A ≤ 2) := by omega
      rcases hcs with h1 | ⟨h1, h2⟩ | ⟨h1, h2⟩
      · rw [if_neg (by omega)] at HK2
        have HK3 := Lib.hid HK2
        clear HK2
        go_wp2_with fail
        exact ⟨⟨k + 1, by omega, by rw [Int.natCast_succ], HK3, HX⟩, by simp [intOf]; omega⟩
      · rw [if_neg (by omega)] at HK2
        have HK3 := Lib.hid HK2
        clear HK2
        go_wp2_with fail
        exact ⟨⟨k + 1, by omega, by rw [Int.natCast_succ], HK3, HX⟩, by simp [intOf]; omega⟩
      · rw [if_pos ⟨h1, h2⟩] at HK2
        have HK3 := Lib.hid HK2
        clear HK2
        go_wp2_with fail
        go_ret2
        obtain ⟨rfl, rfl⟩ := Prod.mk.inj HK3.out
        exact ⟨rfl, HX.out⟩
    · have hd : l.drop k = [] := List.drop_of_length_le (by rw [← HN.out]; omega)
      have HK3 : Hid (near1 [] x = (ra, rb)) := by have := HK.out; rw [hd] at this; exact this
      clear hd
      go_wp2_with fail
      go_ret2
      obtain ⟨rfl, rfl⟩ := Prod.mk.inj HK3.out
      exact ⟨rfl, HX.out⟩

/-- What a block of three cells holds, later on. -/
theorem box3 {w w1 : World} {c0 c1 c2 : Value} {t : TypeId} (h : Ext (w.alloc (.cells #[c0, c1, c2] t)) w1) :
    w1.cell? ⟨w.heap.size, 0, none⟩ = some c0 ∧ w1.cell? ⟨w.heap.size, 1, none⟩ = some c1 ∧ w1.cell? ⟨w.heap.size, 2, none⟩ = some c2 := by
  have hz := h.new
  exact ⟨by rw [cell_of_row _ _ _ _ _ _ hz]; rfl, by rw [cell_of_row _ _ _ _ _ _ hz]; rfl, by rw [cell_of_row _ _ _ _ _ _ hz]; rfl⟩


set_option maxRecDepth 20000 in
set_option maxHeartbeats 2000000 in
theorem align_any (v s x y : Int) (l : List Int) (ao : Option Addr) (cap : Nat) (w : World) (hr : Row w ao (ints l)) (hn : l.length ≤ 1000) (hb : ∀ a ∈ l, 0 ≤ a ∧ a ≤ 1000) (hs : 0 ≤ s ∧ s ≤ 1000) (hx : 0 ≤ x ∧ x ≤ 1000) (hy : 0 ≤ y ∧ y ≤ 1000) :
    Calls Try.prog 88 #[.agg (layV v s ao l.length cap), .int .i64 x, .int .i64 y] w fun e w' => e = .returned (.tuple #[.agg #[.int .i64 (alP l s x y).1.1, .int .i64 (alP l s x y).1.2], .bool (alP l s x y).2]) ∧ Ext w w' := by
  have HNX := fun (W : World) (h : Row W ao (ints l)) => Lib.hid (near_any v s x l ao cap W h hn hb hx)
  have HNY := fun (W : World) (h : Row W ao (ints l)) => Lib.hid (near_any v s y l ao cap W h hn hb hy)
  have hA1 := near1_bd 1000 (by decide) l x hb
  have hB1 := near1_bd 1000 (by decide) l y hb
  unfold alP
  generalize near1 l x = R at HNX hA1 ⊢
  generalize near1 l y = Q at HNY hB1 ⊢
  obtain ⟨A, p⟩ := R
  obtain ⟨B, q⟩ := Q
  simp only at HNX HNY hA1 hB1 ⊢
  have HR := Lib.hid hr
  clear hr hn hb
  generalize l.length = n at HNX HNY ⊢
  unfold layV at HNX HNY ⊢
  have hcs : ((A == 6) = true ∧ (B == 6) = true ∧ corn s A B = true) ∨ ((A == 6) = true ∧ (B == 6) = false ∧ (B == s - 7) = true ∧ corn s A B = true) ∨ ((A == 6) = true ∧ (B == 6) = false ∧ (B == s - 7) = false ∧ (A == s - 7) = true ∧ corn s A B = false) ∨
      ((A == 6) = true ∧ (B == 6) = false ∧ (B == s - 7) = false ∧ (A == s - 7) = false ∧ corn s A B = false) ∨ ((A == 6) = false ∧ (A == s - 7) = true ∧ (B == 6) = true ∧ corn s A B = true) ∨ ((A == 6) = false ∧ (A == s - 7) = true ∧ (B == 6) = false ∧ corn s A B = false) ∨ ((A == 6) = false ∧ (A == s - 7) = false ∧ corn s A B = false) := by
    unfold corn
    cases A == 6 <;> cases B == 6 <;> cases B == s - 7 <;> cases A == s - 7 <;> simp
  have hpq : (p = false ∧ (p && q) = false) ∨ (p = true ∧ q = false) ∨ (p = true ∧ q = true) := by cases p <;> cases q <;> simp
  go_enter Try.func88, Try.ntmps88
  go_wp2_with fail
  refine (HNX _ (HR.out.ext ((Ext.alloc _ _).trans (Ext.alloc _ _)))).out.mono ?_
  rintro e w1 ⟨rfl, hx1⟩
  have HX1 := Lib.hid hx1
  obtain ⟨z0, z1, z2⟩ := box3 ((Ext.alloc _ _).trans hx1)
  clear hx1
  go_wp2_with fail
  refine (HNY _ (HR.out.ext (((Ext.alloc _ _).trans (Ext.alloc _ _)).trans HX1.out))).out.mono ?_
  rintro e w2 ⟨rfl, hx2⟩
  have HX2 : Hid (Ext w w2) := (((Ext.alloc _ _).trans (Ext.alloc _ _)).trans HX1.out).trans hx2
  have HG := Lib.hid (HX1.out.trans hx2).new
  rw [World.size_alloc] at HG
  replace z0 := hx2.cell z0
  replace z1 := hx2.cell z1
  replace z2 := hx2.cell z2
  clear hx2 HX1 HNX HNY
  rcases hcs with ⟨c1, c2, hc⟩ | ⟨c1, c2, c3, hc⟩ | ⟨c1, c2, c3, c4, hc⟩ | ⟨c1, c2, c3, c4, hc⟩ | ⟨c1, c2, c3, hc⟩ | ⟨c1, c2, c3, hc⟩ | ⟨c1, c2, hc⟩
  all_goals
    have HC := Lib.hid hc
    clear hc
    rcases hpq with ⟨rfl, h⟩ | ⟨rfl, rfl⟩ | ⟨rfl, rfl⟩
  all_goals
    skip
    go_wp2_with ((with_reducible show wpList _ _ _ (⟨none, .store 45 _ _, _, _, _, _⟩ :: _) _ _); refine wpList_storeOwn rfl 45 _ _ rfl (w.heap.size + 1) _ rfl rfl 45 _ HG.out (by kernel_rfl) (by kernel_rfl) (by kernel_rfl) w HX2.out (Nat.le_succ _) ?_; intro wE HXE HGE)
    refine bodyPost_ret (results_cellSlot rfl _ wE (w.heap.size + 1) 45 _ (0, 0) _ rfl HGE.out Try.underlying45 rfl (by kernel_rfl)) rfl ⟨?_, HXE⟩
    rw [HC.out]
    rfl

end Go.Proofs.Ytjkpdhcnklgfbaa
