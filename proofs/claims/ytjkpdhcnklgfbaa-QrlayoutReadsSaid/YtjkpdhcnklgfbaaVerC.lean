/-
  Contracts of qrversion.Aligns and its reference; of the reference's tables and Codewords.
  Conditions: none for the last of each.
-/
import Derived.Test.YtjkpdhcnklgfbaaVerB
import Derived.Test.YtjkpdhcnklgfbaaInfo
namespace Go.Proofs.Ytjkpdhcnklgfbaa
open Go.RowKit Go.Bs Go.Qrv


def alRes (v : Int) : List Int × Int := if inV v then (al v.toNat, 0) else ([], 14)
theorem alRes_1 {v : Nat} (h : inV v) : alRes v = (al v, 0) := by unfold alRes; rw [if_pos h]; rfl
theorem alRes_2 {v : Int} (h : ¬ inV v) : alRes v = ([], 14) := by unfold alRes; rw [if_neg h]

def nz (l : List Int) : List Int := l.filter fun c => c != 0
theorem nz_take_yes (l : List Int) (k : Nat) (h : k < l.length) (hz : (l[k] != 0) = true) : ints (nz (l.take (k + 1))) = ints (nz (l.take k)) ++ [.int .i64 l[k]] := by
  unfold nz
  rw [List.take_succ_eq_append_getElem h, List.filter_append, ints_append]
  simp [hz, ints]
theorem nz_take_no (l : List Int) (k : Nat) (h : k < l.length) (hz : (l[k] != 0) = false) : nz (l.take (k + 1)) = nz (l.take k) := by
  unfold nz
  rw [List.take_succ_eq_append_getElem h, List.filter_append]
  simp [hz]
theorem nz_all : ∀ i : Fin 40, nz (cenRow (i.val + 1)) = al (i.val + 1) := by decide +kernel
theorem nz_cen (n : Nat) (h1 : 1 ≤ n) (h2 : n ≤ 40) : nz (cenRow n) = al n := by
  have := nz_all ⟨n - 1, by omega⟩
  simp only [show n - 1 + 1 = n by omega] at this
  exact this

set_option maxRecDepth 20000 in
set_option maxHeartbeats 800000 in
theorem aligns_any (v : Int) (w : World) : Calls Try.prog 68 #[.int .i64 v] w (RetSl w (ints (alRes v).1, (alRes v).2)) := by
  by_cases hv : inV v
  · obtain ⟨n, rfl, h1, h2⟩ := inV_nat hv
    rw [alRes_1 hv]
    have HV := Lib.hid hv
    have hlen := cenRow_length n h1 h2
    have hl1 : (cenRow n).length ≤ 7 := by omega
    have hl2 : 7 ≤ (cenRow n).length := by omega
    have HN := Lib.hid (nz_cen n h1 h2)
    clear hv hlen
    obtain ⟨L, hL⟩ : ∃ L, L = cenRow n := ⟨_, rfl⟩
    rw [← hL] at hl1 hl2 HN
    have HL := Lib.hid hL
    clear hL
    go_enter Try.func68, Try.ntmps68
    go_wp2_with fail
    refine (exists_yes _ _ HV.out).mono ?_
    rintro e w' ⟨rfl, rfl⟩
    go_wp2_with fail
    refine (centers_any n _ h1 h2).mono ?_
    rw [← HL.out]
    rintro e w1 ⟨rfl, HE⟩
    go_wp2_with fail
    go_loopw [4, 6, 12] (fun s _ i wr => ∃ k m : Nat, k ≤ 7 ∧ m ≤ k ∧ i = .int .i64 k ∧ wr.ownsRow w.heap.size 3 1 s m (ints (nz (L.take k))) ∧ Below w.heap.size w wr) (fun _ _ i _ => 7 - (intOf i).toNat)
    case atStart => exact ⟨0, 0, by omega, by omega, rfl, World.ownsRow_nil _ _ _ _, HE⟩
    case round =>
      obtain ⟨k, m, hk, hmk, rfl, hown, hbel⟩ := hrel
      have hsz := hbel.size
      by_cases hlt : k < 7
      · have hvk : (ints L).toArray[k]? = some (.int .i64 (L[k]'(by omega))) := by
          have := Go.Bs.ints_at L k (by omega)
          simpa using this
        have HVK := Lib.hid hvk
        clear hvk
        cases hz : (L[k]'(by omega) != 0)
        · have HZ := Lib.hid (nz_take_no L k (by omega) hz)
          go_wp2_with (refine wpList_indexAgg rfl 114 _ _ rfl 7 3 Try.underlying114 .i64 Try.underlying3 (by kernel_rfl) _ rfl .i64 k rfl hlt _ HVK.out ?_)
          go_roundw
          case rel => exact ⟨k + 1, m, by omega, by omega, by go_num, by rw [HZ.out]; exact hown, hbel⟩
          case measure => simp [intOf]; omega
        · have HZ := Lib.hid (nz_take_yes L k (by omega) hz)
          go_wp2_with (first
            | (refine wpList_indexAgg rfl 114 _ _ rfl 7 3 Try.underlying114 .i64 Try.underlying3 (by kernel_rfl) _ rfl .i64 k rfl hlt _ HVK.out ?_)
            | (at_builtin; refine wpList_push rfl _ _ 60 rfl w.heap.size 3 (.int .i64 0) 8 Try.infoInt rfl Try.underlying60 _ rfl m _ hown _ rfl rfl (by omega) (by omega) hbel (by omega) ?_; intro s2 w2 hown2 hbel2 _))
          rw [← HZ.out] at hown2
          clear hown
          go_roundw
          case rel => exact ⟨k + 1, m + 1, by omega, by omega, by go_num, hown2, hbel2⟩
          case measure => simp [intOf]; omega
      · have hall : L.take k = L := List.take_of_length_le (by omega)
        rw [hall, HN.out] at hown
        clear hall
        go_wp2_with fail
        go_ret2
        exact RetSl.own hown hbel
  · rw [alRes_2 hv]
    go_enter Try.func68, Try.ntmps68
    go_wp2_with fail
    refine (exists_no _ _ hv).mono ?_
    rintro e w' ⟨rfl, rfl⟩
    go_wp2_with fail
    go_ret2
    exact RetSl.nil _ _ _ (Ext.refl _)

end Go.Proofs.Ytjkpdhcnklgfbaa
