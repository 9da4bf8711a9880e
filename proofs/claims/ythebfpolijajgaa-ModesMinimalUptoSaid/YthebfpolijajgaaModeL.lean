/-
  The contract of modes.unpack.
  Conditions: the mode is one of the three; small numbers.
-/
import Derived.Test.YthebfpolijajgaaModeI
import Derived.Test.YthebfpolijajgaaDecPlain
import Derived.Test.YthebfpolijajgaaQrC
namespace Go.Proofs.Ythebfpolijajgaa
open Go.RowKit Go.Bs Go.Mode

/-- A slice of the call's own and a truth are returned. -/
def OwnOk (t : TypeId) (w : World) (cs : List Value) (b : Bool) (e : Ending) (w' : World) : Prop :=
  ∃ s, e = .returned (.tuple #[s, .bool b]) ∧ w'.ownsRow w.heap.size t 1 s cs.length cs ∧ Ext w w'

/-- A number is read out of a struct's value. -/
theorem wpList_fieldAgg {P : Program} {ops : Array Oper} {rest : List Oper} {o : Oper} {a : Act} {Q : Exit → Act → World → Prop} {w : World} (hg : o.guard = none) (t : TypeId) (x : Operand) (k : Nat) (ho : o.op = .field t x k) (fs : Array Field) (hu : P.underlying t = some (.struct fs)) (f : Field) (hf : fs[k]? = some f)
    (kd : IntKind) (hue : P.underlying f.type = some (.int kd)) (cs : Array Value) (hx : a.eval x = .agg cs) (v : Value) (hv : cs[f.offset]? = some v)
    (h : wpList P ops Q rest (a.put o.dst v) w) : wpList P ops Q (o :: rest) a w := by
  refine wpList_plain hg fun K hK => ?_
  unfold Oper.wp execOp
  simp [ho, hx, Instr.field, run_underlying hu, hf, asAgg, part, isAgg, run_underlying hue, hv, Sem.run_bind, Result.andThen]
  exact hK _ _ h

theorem chr_alnum (m : Int) (hm : m ≠ 4) (k : Nat) (h : k < 45) : chrOf m k = alnum[k]'(by rw [length_alnum]; exact h) := by
  unfold chrOf
  rw [if_neg hm, List.getD_eq_getElem?_getD, List.getElem?_eq_getElem (by rw [length_alnum]; exact h)]
  rfl

theorem ungV_at (m : Int) (v n k : Nat) (h : k < n) : (ungV m v n)[k]'(by rw [length_ungV]; exact h) = chrOf m (v / baseN m ^ (n - 1 - k) % baseN m) := by simp [ungV]

set_option maxRecDepth 20000 in
set_option maxHeartbeats 1600000 in
theorem unpack_any (m : Int) (v n : Nat) (w : World) (hm : okMode m = true) (hv : v ≤ 1048576) (hn : n ≤ 3) :
    Calls Try.prog 79 #[.int .i64 m, .int .i64 v, .int .i64 n] w (OwnOk 5 w (byts (ungV m v n)) (ungOk m v n)) := by
  obtain ⟨L, hL⟩ : ∃ L, L = byts (ungV m v n) := ⟨_, rfl⟩
  have HL := Lib.hid hL
  have HLL : Hid (L.length = n) := by show _ = _; rw [hL, length_byts, length_ungV]
  rw [← hL]
  clear hL
  obtain ⟨hb1, hb2⟩ := baseN_pos m
  have HBN := Lib.hid (baseN_eq m)
  have HMO := Lib.hid hm
  clear hm
  go_enter Try.func79, Try.ntmps79
  go_wp2_with fail
  refine (packed_any m _ HMO.out).mono ?_
  rw [packA_eq, HBN.out]
  rintro e w1 ⟨rfl, hx1⟩
  obtain ⟨bs, hbs⟩ : ∃ bs, bs = baseN m := ⟨_, rfl⟩
  have HBS := Lib.hid hbs
  rw [← hbs] at hb1 hb2 ⊢
  clear hbs
  go_wp2_with (first | ((with_reducible show wpList _ _ _ (⟨some 14, _, _, _, _, _⟩ :: _) _ _); refine wpList_fieldAgg rfl 76 _ 1 rfl _ Try.underlying76 _ rfl .i64 Try.underlying3 _ rfl (.int .i64 (bs : Int)) rfl ?_) | (at_make; refine wpList_make (ws := w) rfl _ _ 22 rfl w.heap.size 5 (.int .u8 0) 1 Try.infoByte rfl Try.underlying22 _ _ _ _ rfl rfl n n rfl rfl (Nat.le_refl _) (by omega) (by omega) hx1 hx1.size ?_; intro w2 hown2 hbel2 hg2))
  obtain ⟨g, hg⟩ : ∃ g, g = w1.heap.size := ⟨_, rfl⟩
  rw [← hg] at hown2 ⊢
  have hgb : w.heap.size ≤ g := by rw [hg]; exact hx1.size
  clear hg hg2
  go_loopw [1, 10, 11] (fun x i _ wr => ∃ k : Nat, k ≤ n ∧ i = .int .i64 ((k : Int) - 1) ∧ x = .int .i64 ((v / bs ^ (n - k) : Nat) : Int) ∧ wr.ownsRow w.heap.size 5 1 (.slice (some ⟨g, 0, none⟩) n n) n (List.replicate k (.int .u8 0) ++ L.drop k) ∧ Below w.heap.size w wr)
     (fun _ i _ _ => (intOf i + 1).toNat)
  case atStart => exact ⟨n, Nat.le_refl _, rfl, by simp, by rw [List.drop_of_length_le (by rw [HLL.out]; exact Nat.le_refl _), List.append_nil]; exact hown2, hbel2⟩
  case round =>
    clear hown2 hbel2
    obtain ⟨k, hk, rfl, rfl, hown, hbel⟩ := hrel
    rcases k with _ | k
    · have HOK : Hid (ungOk m v n = ((((v / bs ^ n : Nat) : Int)) == 0)) := by
        show _ = _
        unfold ungOk
        rw [← HBS.out]
        by_cases h0 : v / bs ^ n = 0
        · simp [h0]
        · rw [decide_eq_false h0]
          symm
          rw [beq_eq_false_iff_ne]
          omega
      rw [Nat.sub_zero]
      obtain ⟨Z, hZ⟩ : ∃ Z, Z = v / bs ^ n := ⟨_, rfl⟩
      rw [← hZ] at HOK ⊢
      clear hZ
      go_wp2_with fail
      go_ret2
      refine ⟨_, by rw [HOK.out]; rfl, ?_, hbel⟩
      rw [HLL.out]
      simpa using hown
    · obtain ⟨hc, hf⟩ := own_cell hown k (.int .u8 0) (by rw [List.getElem?_append_left (by simp)]; simp)
      have HB : Hid (L[k]? = some (.int .u8 (chrOf m (v / bs ^ (n - (k + 1)) % bs)).toNat)) := by
        show _ = _
        rw [HL.out, byts_at _ _ (by rw [length_ungV]; omega), ungV_at m v n k (by omega), ← HBS.out, show n - 1 - k = n - (k + 1) by omega]
      have HD : Hid (v / bs ^ (n - (k + 1)) / bs = v / bs ^ (n - k)) := by
        show _ = _
        rw [show n - k = n - (k + 1) + 1 by omega, Nat.pow_succ, Nat.div_div_eq_div_mul]
      have hVb : v / bs ^ (n - (k + 1)) ≤ 1048576 := Nat.le_trans (Nat.div_le_self _ _) hv
      obtain ⟨V, hV⟩ : ∃ V, V = v / bs ^ (n - (k + 1)) := ⟨_, rfl⟩
      rw [← hV] at HB HD hVb ⊢
      clear hV
      have hdg : V % bs < bs := Nat.mod_lt _ (by omega)
      obtain ⟨dg, hdg'⟩ : ∃ dg, dg = V % bs := ⟨_, rfl⟩
      obtain ⟨V2, hV2⟩ : ∃ V2, V2 = V / bs := ⟨_, rfl⟩
      have q1 : (V : Int).tmod (bs : Int) = (dg : Int) := by rw [hdg', Int.tmod_eq_emod_of_nonneg (by omega)]; rfl
      have q2 : (V : Int).tdiv (bs : Int) = (V2 : Int) := by rw [hV2, Int.tdiv_eq_ediv_of_nonneg (by omega)]; rfl
      have q3 : (V : Int) % (bs : Int) = (dg : Int) := by rw [hdg']; rfl
      have q4 : (V : Int) / (bs : Int) = (V2 : Int) := by rw [hV2]; rfl
      have hV2b : V2 ≤ 1048576 := by rw [hV2]; exact Nat.le_trans (Nat.div_le_self _ _) hVb
      rw [← hdg'] at hdg HB
      rw [← hV2] at HD
      clear hdg' hV2
      by_cases h4 : m = 4
      · have hb4 : bs ≤ 256 := hb2
        have HCH : Hid ((chrOf m dg).toNat = dg) := by
          show _ = _
          unfold chrOf
          rw [if_pos h4]
          simp
          omega
        subst h4
        go_wp2_with fail
        refine ⟨⟨k, by omega, rfl, by rw [HD.out], ?_, hbel.setCell hgb _⟩, by simp [intOf]⟩
        have := (hown.stored k (.int .u8 (dg : Int))).1
        rwa [fill_back L _ _ k (by rw [HB.out, HCH.out])] at this
      · have h45 : bs ≤ 45 := by
          rw [HBS.out]
          have h1 := HMO.out
          unfold okMode at h1
          simp only [Bool.or_eq_true, beq_iff_eq] at h1
          rcases h1 with (rfl | rfl) | rfl
          · decide
          · decide
          · exact absurd rfl h4
        have hd45 : dg < 45 := by omega
        have HCH := Lib.hid (chr_alnum m h4 dg hd45)
        have hne : (m == 4) = false := by simp [h4]
        have H4 := Lib.hid h4
        clear h4
        go_wp2_with fail
        refine ⟨⟨k, by omega, rfl, by rw [HD.out], ?_, hbel.setCell hgb _⟩, by simp [intOf]⟩
        have := (hown.stored k (.int .u8 ((alnum[dg]'(by rw [length_alnum]; exact hd45)).toNat : Int))).1
        rw [fill_back L _ _ k (by rw [HB.out, HCH.out])] at this
        rw [alnum_at dg hd45 _ (by decide)]
        exact this

end Go.Proofs.Ythebfpolijajgaa
