/-
  Contracts of math/bits.OnesCount, bch.minimum, barscanref08.Distance.
  Conditions: the numbers are small (they stand in each contract).
-/
import Derived.Test.YtjkpdhcnklgfbaaBchA
import Derived.Test.YtjkpdhcnklgfbaaPop
namespace Go.Proofs.Ytjkpdhcnklgfbaa
open Go.RowKit Go.Bs Go.Bch

theorem u64w (n : Nat) (h : n < 18446744073709551616) : IntKind.u64.wrap (n : Int) = n := by rw [IntKind.wrap_u64]; omega
theorem pop1 (x s m : Nat) (hx : x < 4294967296) (hm : m < 18446744073709551616) (hb : (x / s &&& m) + (x &&& m) < 4294967296) :
    IntKind.u64.wrap (bits .and .u64 ((x : Int) / (s : Int)) (m : Int) + bits .and .u64 (x : Int) (m : Int)) = (((x / s &&& m) + (x &&& m) : Nat) : Int) := by
  have h1 : x / s ≤ x := Nat.div_le_self _ _
  rw [show (x : Int) / (s : Int) = ((x / s : Nat) : Int) from rfl, u64_and_nat _ _ (by omega) hm, u64_and_nat _ _ (by omega) hm, ← Int.natCast_add, u64w _ (by omega)]
theorem pop3 (x : Nat) (hx : x < 4294967296) :
    bits .and .u64 (IntKind.u64.wrap ((x : Int) / 16 + (x : Int))) 1085102592571150095 = (((x / 16 + x) &&& 1085102592571150095 : Nat) : Int) := by
  rw [show (x : Int) / 16 + (x : Int) = ((x / 16 + x : Nat) : Int) from by omega, u64w _ (by omega)]
  exact u64_and_nat _ 1085102592571150095 (by omega) (by decide)
theorem pop4 (x s : Nat) (hx : x < 17179869184) : IntKind.u64.wrap ((x : Int) + (x : Int) / (s : Int)) = ((x + x / s : Nat) : Int) := by
  have h1 : x / s ≤ x := Nat.div_le_self _ _
  rw [show (x : Int) / (s : Int) = ((x / s : Nat) : Int) from rfl, ← Int.natCast_add, u64w _ (by omega)]
theorem pop5 (x : Nat) (hx : x < 68719476736) : bits .and .i64 (wrap64 (x : Int)) 127 = ((x % 128 : Nat) : Int) := by
  rw [IntWalk.wrap64_in _ ⟨by omega, by omega⟩]
  rw [show (127 : Int) = ((127 : Nat) : Int) from rfl, i64_and_nat _ _ (by omega) (by decide), show 127 = 2 ^ 7 - 1 from rfl, Nat.and_two_pow_sub_one_eq_mod]

set_option maxRecDepth 20000 in
set_option maxHeartbeats 400000 in
theorem ones64_any (x : Nat) (w : World) (h : x < 4294967296) :
    Calls Try.prog 102 #[.int .u64 x] w fun e w' => e = .returned (.int .i64 (wt x)) ∧ w = w' := by
  go_enter Try.func102, Try.ntmps102
  go_wp2_with fail
  go_ret
  refine ⟨ret_int ?_, rfl⟩
  have hbd := pop_bd x h
  obtain ⟨a, ha⟩ : ∃ a, a = (x / 2 &&& 6148914691236517205) + (x &&& 6148914691236517205) := ⟨_, rfl⟩
  rw [← ha] at hbd
  obtain ⟨b, hb⟩ : ∃ b, b = (a / 4 &&& 3689348814741910323) + (a &&& 3689348814741910323) := ⟨_, rfl⟩
  rw [← hb] at hbd
  have e1 := pop1 x 2 6148914691236517205 h (by decide) (by omega)
  rw [← ha] at e1
  have e2 := pop1 a 4 3689348814741910323 (by omega) (by decide) (by omega)
  rw [← hb] at e2
  have e3 := pop3 b (by omega)
  obtain ⟨c, hc⟩ : ∃ c, c = (b / 16 + b) &&& 1085102592571150095 := ⟨_, rfl⟩
  have hcl : c ≤ b / 16 + b := by rw [hc]; exact Nat.and_le_left
  rw [← hc] at e3
  have e4 := pop4 c 256 (by omega)
  obtain ⟨d, hd⟩ : ∃ d, d = c + c / 256 := ⟨_, rfl⟩
  rw [← hd] at e4
  have e5 := pop4 d 65536 (by omega)
  obtain ⟨f, hf⟩ : ∃ f, f = d + d / 65536 := ⟨_, rfl⟩
  rw [← hf] at e5
  have e6 := pop4 f 4294967296 (by omega)
  have hp : pop x = (f + f / 4294967296) % 128 := by rw [hf, hd, hc, hb, ha]; rfl
  rw [← pop_eq x h, hp, ← pop5 _ (by omega), ← e6]
  simp only [Int.cast_ofNat_Int] at e1 e2 e4 e5 e6
  rw [e1, e2, e3, e4, e5]
  rfl

set_option maxHeartbeats 400000 in
theorem onescount_any (x : Nat) (w : World) (h : x < 4294967296) :
    Calls Try.prog 100 #[.int .u64 x] w fun e w' => e = .returned (.int .i64 (wt x)) ∧ w = w' := by
  go_enter Try.func100, Try.ntmps100
  go_wp2_with fail
  refine (ones64_any x _ h).mono ?_
  rintro e w' ⟨rfl, rfl⟩
  go_wp2_with fail
  go_ret
  exact ⟨rfl, rfl⟩

end Go.Proofs.Ytjkpdhcnklgfbaa
