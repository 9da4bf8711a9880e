/-
  Contracts of bits.FromBytes, barscanref01.FromBytes, bits.Bytes, barscanref01.Bytes.
  Conditions: the slices' cells are those of the lists; lengths are bounded.
-/
import Derived.Test.YtkkfldnkenbplaaBytesPlain
namespace Go.Proofs.Ytkkfldnkenbplaa
open Go.RowKit Go.Bs

theorem u8_and_one (x : Int) (h0 : 0 ≤ x) (h1 : x < 256) : bits .and .u8 x 1 = x % 2 := by
  rw [u8_and x 1 h0 h1 (by decide) (by decide), show (1 : Int).toNat = 1 from rfl, nat_mask1]; omega
theorem u8_shr_bd (c : UInt8) (i : Nat) : 0 ≤ (c.toNat : Int) / 2 ^ i ∧ (c.toNat : Int) / 2 ^ i < 256 := by
  have h := c.toNat_lt
  have hp : (0 : Int) < 2 ^ i := Int.pow_pos (by decide)
  have h1 := Int.ediv_nonneg (show 0 ≤ (c.toNat : Int) by omega) (show 0 ≤ (2 : Int) ^ i by omega)
  have h2 := Int.ediv_le_self (2 ^ i) (show 0 ≤ (c.toNat : Int) by omega)
  omega

def pbit (p : List UInt8) (i : Nat) : Bool := (((p.getD (i / 8) 0).toNat : Int) / 2 ^ (7 - i % 8)) % 2 == 1
theorem pbit_eq (p : List UInt8) (i : Nat) (h : i / 8 < p.length) : (bits .and .u8 ((p[i / 8].toNat : Int) / 2 ^ (7 - i % 8)) 1 == 1) = pbit p i := by
  have := u8_shr_bd p[i / 8] (7 - i % 8)
  rw [u8_and_one _ this.1 this.2]; unfold pbit; rw [List.getD, List.getElem?_eq_getElem h]; rfl
def fbits (p : List UInt8) (n : Nat) : List Bool := (List.range n).map (pbit p)
theorem length_fbits (p : List UInt8) (n : Nat) : (fbits p n).length = n := by simp [fbits]
theorem fbits_at (p : List UInt8) (n k : Nat) (h : k < n) : (bools (fbits p n))[k]? = some (.bool (pbit p k)) := by
  rw [bools_at _ _ (by rw [length_fbits]; exact h)]; simp [fbits]
theorem fbits_succ (p : List UInt8) (k : Nat) : bools (fbits p (k + 1)) = bools (fbits p k) ++ [.bool (pbit p k)] := by
  unfold fbits; rw [List.range_succ, List.map_append, bools_append]; rfl
def fbRes (p : List UInt8) (n : Int) : List Bool × Int :=
  if n < 0 then ([], 3) else if 1048576 < n then ([], 4) else if (p.length : Int) < (n + 7) / 8 then ([], 10) else (fbits p n.toNat, 0)
theorem fbRes_1 {p : List UInt8} {n : Int} (h : n < 0) : fbRes p n = ([], 3) := by unfold fbRes; rw [if_pos h]
theorem fbRes_2 {p : List UInt8} {n : Int} (h : ¬ n < 0) (h2 : 1048576 < n) : fbRes p n = ([], 4) := by unfold fbRes; rw [if_neg h, if_pos h2]
theorem fbRes_3 {p : List UInt8} {n : Int} (h : ¬ n < 0) (h2 : ¬ 1048576 < n) (h3 : (p.length : Int) < (n + 7) / 8) : fbRes p n = ([], 10) := by unfold fbRes; rw [if_neg h, if_neg h2, if_pos h3]
theorem fbRes_4 {p : List UInt8} {n : Int} (h : ¬ n < 0) (h2 : ¬ 1048576 < n) (h3 : ¬ (p.length : Int) < (n + 7) / 8) : fbRes p n = (fbits p n.toNat, 0) := by unfold fbRes; rw [if_neg h, if_neg h2, if_neg h3]

set_option maxHeartbeats 800000 in
theorem fromBytes_any (ao : Option Addr) (len cap : Nat) (p : List UInt8) (n : Int) (w : World) (hl : p.length = len) (_hb : len ≤ 4611686018427387904) (hr : Row w ao (byts p)) :
    Calls Try.prog 34 #[.slice ao len cap, .int .i64 n] w (RetSl w (bools (fbRes p n).1, (fbRes p n).2)) := by
  have HX := Lib.hid hl
  have hle : p.length ≤ len := by omega
  have hge : len ≤ p.length := by omega
  clear hl
  go_enter Try.func34, Try.ntmps34
  go_wp2_with (at_make; refine wpList_make (ws := w) rfl _ _ 22 rfl w.heap.size 4 (.bool false) 1 Try.infoBool rfl Try.underlying22 _ _ _ _ rfl rfl n.toNat n.toNat (by omega) (by omega) (Nat.le_refl _) (by omega) (by omega) (Below.refl _ _) (Nat.le_refl _) ?_)
  all_goals try (go_ret2; first | (rw [fbRes_1 (by omega)]; exact RetSl.nil _ _ _ (Ext.refl _)) | (rw [fbRes_2 (by omega) (by omega)]; exact RetSl.nil _ _ _ (Ext.refl _)) | (rw [fbRes_3 (by omega) (by omega) (by omega)]; exact RetSl.nil _ _ _ (Ext.refl _)))
  intro w1 hown1 hb1 _
  obtain ⟨q, rfl⟩ := Int.eq_ofNat_of_zero_le (show 0 ≤ n by omega)
  simp only [Int.toNat_natCast] at hown1 ⊢
  go_wp2_with fail
  obtain ⟨L, hL⟩ : ∃ L, L = bools (fbits p q) := ⟨_, rfl⟩
  have HL := Lib.hid hL
  have HLL : Hid (L.length = q) := by show _ = _; rw [hL, length_bools, length_fbits]
  clear hL
  go_loopw [7, 22] (fun _ i wr => ∃ k : Nat, k ≤ q ∧ i = .int .i64 k ∧ wr.ownsRow w.heap.size 4 1 (.slice (some ⟨w.heap.size, 0, none⟩) q q) q (filled L (.bool false) k) ∧ Below w.heap.size w wr)
     (fun _ i _ => q - (intOf i).toNat)
  case atStart => exact ⟨0, Nat.zero_le _, rfl, by rw [filled_zero, HLL.out]; exact hown1, hb1⟩
  case round =>
    clear hown1 hb1
    obtain ⟨k, hk, rfl, hown, hbel⟩ := hrel
    by_cases hlt : k < q
    · obtain ⟨a, rfl, hca⟩ := (hr.ext hbel).at (byts_at p (k / 8) (by omega))
      obtain ⟨hc, hf⟩ := own_cell hown k _ (filled_at L (.bool false) k (by rw [HLL.out]; exact hlt))
      have h8 := p[k / 8].toNat_lt
      go_wp2
      go_roundw
      case rel =>
        refine ⟨k + 1, by omega, by go_num, ?_, hbel.setCell (Nat.le_refl _) _⟩
        rw [pbit_eq p k (by omega)]
        have := (hown.stored k (.bool (pbit p k))).1
        rw [filled_set L _ _ k (by rw [HL.out, fbits_at p q k hlt])] at this
        exact this
      case measure => simp [intOf]; omega
    · go_wp2
      go_ret2
      rw [filled_all _ _ _ (by rw [HLL.out]; omega), HL.out] at hown
      rw [fbRes_4 (by omega) (by omega) (by omega)]
      exact RetSl.own hown hbel

set_option maxHeartbeats 800000 in
theorem rfromBytes_any (ao : Option Addr) (len cap : Nat) (p : List UInt8) (n : Int) (w : World) (hl : p.length = len) (_hb : len ≤ 4611686018427387904) (hr : Row w ao (byts p)) :
    Calls Try.prog 35 #[.slice ao len cap, .int .i64 n] w (RetSl w (bools (fbRes p n).1, (fbRes p n).2)) := by
  have HX := Lib.hid hl
  have hle : p.length ≤ len := by omega
  have hge : len ≤ p.length := by omega
  clear hl
  go_enter Try.func35, Try.ntmps35
  go_wp2_with fail
  all_goals try (go_ret2; first | (rw [fbRes_1 (by omega)]; exact RetSl.nil _ _ _ (Ext.refl _)) | (rw [fbRes_2 (by omega) (by omega)]; exact RetSl.nil _ _ _ (Ext.refl _)) | (rw [fbRes_3 (by omega) (by omega) (by omega)]; exact RetSl.nil _ _ _ (Ext.refl _)))
  obtain ⟨q, rfl⟩ := Int.eq_ofNat_of_zero_le (show 0 ≤ n by omega)
  go_loopw [6, 7] (fun v i wr => ∃ k : Nat, k ≤ q ∧ i = .int .i64 k ∧ wr.ownsRow w.heap.size 4 1 v k (bools (fbits p k)) ∧ Below w.heap.size w wr)
     (fun _ i _ => q - (intOf i).toNat)
  case atStart => exact ⟨0, Nat.zero_le _, rfl, World.ownsRow_nil _ _ _ _, Below.refl _ _⟩
  case round =>
    obtain ⟨k, hk, rfl, hown, hbel⟩ := hrel
    have hsz := hbel.size
    by_cases hlt : k < q
    · obtain ⟨a, rfl, hca⟩ := (hr.ext hbel).at (byts_at p (k / 8) (by omega))
      have h8 := p[k / 8].toNat_lt
      go_wp2_with (at_builtin; refine wpList_push rfl _ _ 22 rfl w.heap.size 4 (.bool false) 1 Try.infoBool rfl Try.underlying22 _ rfl k _ hown _ rfl rfl (by omega) (by omega) hbel (by omega) ?_)
      intro s2 w2 hown2 hbel2 _
      clear hown
      go_wp2
      go_roundw
      case rel =>
        refine ⟨k + 1, by omega, by go_num, ?_, hbel2⟩
        rw [pbit_eq p k (by omega), ← fbits_succ] at hown2
        exact hown2
      case measure => simp [intOf]; omega
    · obtain rfl : k = q := by omega
      go_wp2_with fail
      go_ret2
      rw [fbRes_4 (by omega) (by omega) (by omega)]
      exact RetSl.own hown hbel

/-- The bytes that bits form. -/
def bytesOf (xs : List Bool) (k : Nat) : List UInt8 := (List.range k).map fun j => UInt8.ofNat (num (pad xs (j * 8) 8 false)).toNat
theorem length_bytesOf (xs : List Bool) (k : Nat) : (bytesOf xs k).length = k := by simp [bytesOf]
theorem num8_bd (l : List Bool) (h : l.length = 8) : 0 ≤ num l ∧ num l < 256 := by
  have := num_bd l
  rw [h] at this
  exact this
theorem bytesOf_succ (xs : List Bool) (k : Nat) : byts (bytesOf xs (k + 1)) = byts (bytesOf xs k) ++ [.int .u8 (num (pad xs (k * 8) 8 false))] := by
  unfold bytesOf; rw [List.range_succ, List.map_append, byts_append]
  have := num8_bd (pad xs (k * 8) 8 false) (length_pad _ _ _ _)
  simp [byts]; omega

/-- Bytes are returned; nothing that was there has changed. -/
def RetRow (w : World) (cs : List Value) (e : Ending) (w' : World) : Prop :=
  ∃ ao cap, e = .returned (.slice ao cs.length cap) ∧ Row w' ao cs ∧ cs.length ≤ cap ∧ cap ≤ 9223372036854775807 ∧ (ao = none → cap = 0) ∧ Ext w w'
theorem RetRow.own {w w' : World} {B : Nat} {e : TypeId} {s : Value} {n : Nat} {xs : List Value} (h : w'.ownsRow B e 1 s n xs) (hx : Ext w w') : RetRow w xs (.returned s) w' := by
  obtain ⟨ao, cap, rfl, h1, h2, h3, h4⟩ := own_row h
  refine ⟨ao, cap, by rw [h3], h4, by rw [h3]; exact h1, by unfold maxLen at h2; omega, ?_, hx⟩
  intro ha
  subst ha
  rcases h.2 with ⟨hv, _⟩ | ⟨g, cap', cur, hv, _⟩
  · simp at hv; exact hv.2
  · simp at hv

set_option maxHeartbeats 800000 in
theorem rbytes_any (ao : Option Addr) (len cap : Nat) (xs : List Bool) (w : World) (hl : xs.length = len) (hb : len ≤ 1048576) (hr : Row w ao (bools xs)) :
    Calls Try.prog 37 #[.slice ao len cap] w (RetRow w (byts (bytesOf xs ((xs.length + 8 - 1) / 8)))) := by
  have HL := Lib.hid hl
  have hle : xs.length ≤ len := by omega
  have hge : len ≤ xs.length := by omega
  clear hl
  go_enter Try.func37, Try.ntmps37
  go_wp2_with fail
  go_loopw [3, 4, 5, 6] (fun s i _ _ wr => ∃ k : Nat, (k = 0 ∨ (k - 1) * 8 < len) ∧ k * 8 ≤ len + 8 ∧ i = .int .i64 ((k * 8 : Nat) : Int) ∧ wr.ownsRow w.heap.size 5 1 s k (byts (bytesOf xs k)) ∧ Below w.heap.size w wr)
     (fun _ i _ _ _ => len + 8 - (intOf i).toNat)
  case atStart => exact ⟨0, Or.inl rfl, by omega, rfl, World.ownsRow_nil _ _ _ _, Below.refl _ _⟩
  case round =>
    obtain ⟨k, hK, hp, rfl, hown, hbel⟩ := hrel
    obtain ⟨p, hp8⟩ : ∃ p, p = k * 8 := ⟨_, rfl⟩
    rw [← hp8]
    have HP := Lib.hid hp8
    have hpa : p ≤ k * 8 := by omega
    have hpb : k * 8 ≤ p := by omega
    clear hp8
    have hsz := hbel.size
    by_cases hlt : p < len
    · have HPL := Lib.hid (length_pad xs p 8 false)
      go_wp2
      go_loop [5, 6] (fun v j => ∃ i : Nat, i ≤ 8 ∧ j = .int .i64 ((p : Int) + i) ∧ v = .int .i64 (num ((pad xs p 8 false).take i))) (fun _ j => p + 8 - (intOf j).toNat)
      case atStart => exact ⟨0, by omega, by go_num, rfl⟩
      case round =>
        obtain ⟨i, hi, rfl, rfl⟩ := hrel
        by_cases hlt2 : i < 8
        · obtain ⟨b0, b1⟩ := num_take_bd (pad xs p 8 false) i (by omega)
          have hS := num_take (pad xs p 8 false) i (by rw [HPL.out]; omega)
          by_cases hin : p + i < len
          · rw [pad_in xs p 8 false i (by omega) (by omega)] at hS
            obtain ⟨a, rfl, hc⟩ := (hr.ext hbel).at (bools_at xs (p + i) (by omega))
            cases hv : xs[p + i] <;> rw [hv] at hc hS <;> simp only [Bool.false_eq_true, if_false, if_true, Int.add_zero] at hS <;> have HS := Lib.hid hS <;> clear hS hv
            all_goals
              go_wp2
              go_round
              case rel => exact ⟨i + 1, by omega, by go_num, int_eq HS.out.symm⟩
              case measure => simp [intOf]; omega
          · rw [pad_out xs p 8 false i (by omega) (by omega)] at hS
            simp only [Bool.false_eq_true, if_false, Int.add_zero] at hS
            have HS := Lib.hid hS
            clear hS
            go_wp2
            go_round
            case rel => exact ⟨i + 1, by omega, by go_num, int_eq HS.out.symm⟩
            case measure => simp [intOf]; omega
        · obtain ⟨b0, b1⟩ := num8_bd ((pad xs p 8 false).take i) (by rw [List.length_take, HPL.out]; omega)
          have hw8 : IntKind.u8.wrap (num ((pad xs p 8 false).take i)) = num ((pad xs p 8 false).take i) := by rw [IntKind.wrap_u8]; omega
          go_wp2_with (at_builtin; refine wpList_push rfl _ _ 60 rfl w.heap.size 5 (.int .u8 0) 1 Try.infoByte rfl Try.underlying60 _ rfl k _ hown _ rfl rfl (by omega) (by omega) hbel (by omega) ?_)
          intro s2 w2 hown2 hbel2 _
          clear hown
          go_wp2
          go_roundw
          case rel =>
            refine ⟨k + 1, Or.inr (by omega), by omega, by go_num, ?_, hbel2⟩
            rw [bytesOf_succ, ← HP.out]
            rw [List.take_of_length_le (by rw [HPL.out]; omega)] at hown2
            exact hown2
          case measure => simp [intOf]; omega
    · go_wp2
      go_ret
      have e1 : k = (xs.length + 8 - 1) / 8 := div_up_iff xs.length 8 k (by omega) (by omega) (by omega)
      rw [← e1]
      exact RetRow.own hown hbel

theorem bytesOf_at (xs : List Bool) (nb j : Nat) (h : j < nb) : (bytesOf xs nb)[j]'(by rw [length_bytesOf]; exact h) = UInt8.ofNat (num (pad xs (j * 8) 8 false)).toNat := by simp [bytesOf]
theorem toNat_byte (n : Int) (h0 : 0 ≤ n) (h1 : n < 256) : ((UInt8.ofNat n.toNat).toNat : Int) = n := by simp; omega
theorem bytesOf_nil (nb : Nat) : byts (bytesOf [] nb) = List.replicate nb (.int .u8 0) := by
  have e : ∀ j : Nat, num (pad [] (j * 8) 8 false) = 0 := by intro j; rw [num_pad8]; simp [b2]
  apply List.ext_getElem?
  intro j
  by_cases hj : j < nb
  · rw [byts_at _ _ (by rw [length_bytesOf]; exact hj), bytesOf_at _ _ _ hj, e, List.getElem?_replicate, if_pos hj]; rfl
  · rw [List.getElem?_eq_none (by rw [length_byts, length_bytesOf]; omega), List.getElem?_eq_none (by simp; omega)]
theorem bytes_keep (xs : List Bool) (nb k : Nat) (h : k < xs.length) (hv : xs[k] = false) : bytesOf (xs.take (k + 1)) nb = bytesOf (xs.take k) nb := by
  unfold bytesOf
  apply List.map_congr_left
  intro j _
  by_cases hj : j = k / 8
  · subst hj; rw [(pad_same xs k h).1, hv]; simp [b2]
  · rw [pad_other xs k j h hj]
theorem u8_or_step (c : Int) (r : Nat) (hr : r < 8) (h0 : 0 ≤ c) (h1 : c + 2 ^ (7 - r) < 256) (hm : c % 2 ^ (8 - r) = 0) : bits .or .u8 c (2 ^ (7 - r) % 256) = c + 2 ^ (7 - r) := by
  obtain ⟨n, rfl⟩ := Int.eq_ofNat_of_zero_le h0
  rcases (show r = 0 ∨ r = 1 ∨ r = 2 ∨ r = 3 ∨ r = 4 ∨ r = 5 ∨ r = 6 ∨ r = 7 by omega) with rfl | rfl | rfl | rfl | rfl | rfl | rfl | rfl
  all_goals
    simp only [Nat.sub_zero, Nat.reduceSub, Int.reducePow, Int.reduceMod] at *
    rw [u8_or _ _ (by omega) (by omega) (by omega) (by omega)]
  · rw [nat_join 8 _ _ (by omega) (by decide)]; omega
  · rw [nat_join 7 _ _ (by omega) (by decide)]; omega
  · rw [nat_join 6 _ _ (by omega) (by decide)]; omega
  · rw [nat_join 5 _ _ (by omega) (by decide)]; omega
  · rw [nat_join 4 _ _ (by omega) (by decide)]; omega
  · rw [nat_join 3 _ _ (by omega) (by decide)]; omega
  · rw [nat_join 2 _ _ (by omega) (by decide)]; omega
  · rw [nat_join 1 _ _ (by omega) (by decide)]; omega
theorem bytes_put (xs : List Bool) (nb k : Nat) (h : k < xs.length) (hv : xs[k] = true) (hn : k / 8 < nb) :
    byts (bytesOf (xs.take (k + 1)) nb) = (byts (bytesOf (xs.take k) nb)).set (k / 8) (.int .u8 (bits .or .u8 (((bytesOf (xs.take k) nb)[k / 8]'(by rw [length_bytesOf]; exact hn)).toNat : Int) (2 ^ (7 - k % 8) % 256))) := by
  obtain ⟨hs, hm⟩ := pad_same xs k h
  rw [hv, show b2 true = 1 from rfl, Int.one_mul] at hs
  have hb1 := num8_bd (pad (xs.take k) (k / 8 * 8) 8 false) (length_pad _ _ _ _)
  have hb2 := num8_bd (pad (xs.take (k + 1)) (k / 8 * 8) 8 false) (length_pad _ _ _ _)
  rw [bytesOf_at _ _ _ hn, toNat_byte _ hb1.1 hb1.2, u8_or_step _ (k % 8) (by omega) hb1.1 (by omega) hm, ← hs]
  apply List.ext_getElem?
  intro j
  by_cases hj : j = k / 8
  · subst hj
    rw [byts_at _ _ (by rw [length_bytesOf]; exact hn), bytesOf_at _ _ _ hn, toNat_byte _ hb2.1 hb2.2, List.getElem?_set_self (by rw [length_byts, length_bytesOf]; exact hn)]
  · rw [List.getElem?_set_ne (by omega)]
    by_cases hjn : j < nb
    · rw [byts_at _ _ (by rw [length_bytesOf]; exact hjn), byts_at _ _ (by rw [length_bytesOf]; exact hjn), bytesOf_at _ _ _ hjn, bytesOf_at _ _ _ hjn, pad_other xs k j h hj]
    · rw [List.getElem?_eq_none (by rw [length_byts, length_bytesOf]; omega), List.getElem?_eq_none (by rw [length_byts, length_bytesOf]; omega)]

set_option maxHeartbeats 800000 in
theorem bytes_any (ao : Option Addr) (len cap : Nat) (xs : List Bool) (w : World) (hl : xs.length = len) (hb : len ≤ 1048576) (hr : Row w ao (bools xs)) :
    Calls Try.prog 36 #[.slice ao len cap] w (RetRow w (byts (bytesOf xs ((xs.length + 8 - 1) / 8)))) := by
  have HL := Lib.hid hl
  have hle : xs.length ≤ len := by omega
  have hge : len ≤ xs.length := by omega
  clear hl
  go_enter Try.func36, Try.ntmps36
  go_wp2_with (at_make; refine wpList_make (ws := w) rfl _ _ 60 rfl w.heap.size 5 (.int .u8 0) 1 Try.infoByte rfl Try.underlying60 _ _ _ _ rfl rfl ((len + 7) / 8) ((len + 7) / 8) (by omega) (by omega) (Nat.le_refl _) (by omega) (by omega) (Below.refl _ _) (Nat.le_refl _) ?_)
  intro w1 hown1 hb1 _
  obtain ⟨nb, hnb⟩ : ∃ nb, nb = (len + 7) / 8 := ⟨_, rfl⟩
  rw [← hnb] at hown1 ⊢
  have HNB := Lib.hid hnb
  have hn1 : 8 * nb ≤ len + 7 := by omega
  have hn2 : len ≤ 8 * nb := by omega
  clear hnb
  go_wp2_with fail
  go_loopw [4, 5, 13] (fun _ _ i wr => ∃ k : Nat, k ≤ len ∧ i = .int .i64 k ∧ wr.ownsRow w.heap.size 5 1 (.slice (some ⟨w.heap.size, 0, none⟩) nb nb) nb (byts (bytesOf (xs.take k) nb)) ∧ Below w.heap.size w wr)
     (fun _ _ i _ => len - (intOf i).toNat)
  case atStart => exact ⟨0, Nat.zero_le _, rfl, by rw [List.take_zero, bytesOf_nil]; exact hown1, hb1⟩
  case round =>
    clear hown1 hb1
    obtain ⟨k, hk, rfl, hown, hbel⟩ := hrel
    by_cases hlt : k < len
    · obtain ⟨a, rfl, hca⟩ := (hr.ext hbel).at (bools_at xs k (by omega))
      obtain ⟨hc, hf⟩ := own_cell hown (k / 8) _ (byts_at (bytesOf (xs.take k) nb) (k / 8) (by rw [length_bytesOf]; omega))
      obtain ⟨c, hcc⟩ : ∃ c, c = (bytesOf (xs.take k) nb)[k / 8]'(by rw [length_bytesOf]; omega) := ⟨_, rfl⟩
      rw [← hcc] at hc
      have HC := Lib.hid hcc
      clear hcc
      have h8 := c.toNat_lt
      cases hv : xs[k] <;> rw [hv] at hca
      · have HS := Lib.hid (bytes_keep xs nb k (by omega) hv)
        clear hv
        go_wp2
        go_roundw
        case rel => exact ⟨k + 1, by omega, by go_num, by rw [HS.out]; exact hown, hbel⟩
        case measure => simp [intOf]; omega
      · have hS := bytes_put xs nb k (by omega) hv (by omega)
        rw [← HC.out] at hS
        have HS := Lib.hid hS
        clear hv hS
        go_wp2
        go_region
        go_wp2
        go_roundw
        case rel => exact ⟨k + 1, by omega, by go_num, by rw [HS.out]; exact ((hown.stored (k / 8) _).1).drew, (hbel.setCell (Nat.le_refl _) _).drew⟩
        case measure => simp [intOf]; omega
    · go_wp2
      go_ret
      rw [List.take_of_length_le (by omega)] at hown
      rw [show (xs.length + 8 - 1) / 8 = nb by have := HNB.out; omega]
      exact RetRow.own hown hbel

end Go.Proofs.Ytkkfldnkenbplaa
