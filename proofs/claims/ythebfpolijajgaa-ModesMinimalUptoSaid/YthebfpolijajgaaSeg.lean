/-
  Slices of segments (a mode and bytes): their cells as a list; such a slice among the arguments.
  No condition; used by the other texts of the claim.
-/
import Derived.Test.YthebfpolijajgaaLib
import Derived.Test.YthebfpolijajgaaFrame
namespace Go.Bs
open Go Go.RowKit Go.ChangeShapes Go.WideShapes Go.ChangeAt

/-- A mode and bytes. -/
abbrev SegD := Int × List UInt8

/-- A slice value that reads as bytes. -/
def BSl (w : World) (v : Value) (l : List UInt8) : Prop :=
  ∃ ao cap, v = .slice ao l.length cap ∧ Row w ao (byts l) ∧ l.length ≤ cap ∧ cap ≤ 9223372036854775807 ∧ (ao = none → cap = 0)
theorem BSl.ext {w w' : World} {v : Value} {l : List UInt8} (h : BSl w v l) (hx : Ext w w') : BSl w' v l := by
  obtain ⟨ao, cap, h1, h2, h3⟩ := h
  exact ⟨ao, cap, h1, h2.ext hx, h3⟩

/-- The cells of a slice of segments. -/
def Segs (w : World) (ao : Option Addr) (l : List SegD) : Prop :=
  ∀ (i : Nat) (p : SegD), l[i]? = some p → ∃ b off v, ao = some ⟨b, off, none⟩ ∧ w.cell? ⟨b, off + i * 2, none⟩ = some (.int .i64 p.1) ∧ w.cell? ⟨b, off + i * 2 + 1, none⟩ = some v ∧ BSl w v p.2
theorem Segs.ext {w w' : World} {ao : Option Addr} {l : List SegD} (h : Segs w ao l) (hx : Ext w w') : Segs w' ao l := by
  intro i p hi
  obtain ⟨b, off, v, ha, h1, h2, h3⟩ := h i p hi
  exact ⟨b, off, v, ha, hx.cell h1, hx.cell h2, h3.ext hx⟩
theorem Segs.nil (w : World) (ao : Option Addr) : Segs w ao [] := by intro i p h; simp at h

theorem view_bsl {H : Type} {enc : TypeId × Value → H} {P : Program} {w : World} {base : Nat} {held : Bool} {t e : TypeId} {fuel : Nat} {v : Value} {x : DataW H × List MemPlace}
    (ht : P.underlying t = some (.slice e)) (he : P.underlying e = some (.int .u8)) (hc : P.cellsOf e = 1)
    (h : DataW.trod enc P w base (fun _ => true) held fuel t [v] = some x) : ∃ l : List UInt8, BSl w v l := by
  obtain ⟨l, ao, len, cap, rfl, h1, h2, h3, h4, h5⟩ := view_byts ht he hc h
  rw [length_byts] at h1
  subst h1
  exact ⟨l, ao, cap, rfl, h5, h2, h3, h4⟩

/-- A slice of segments among the arguments. -/
theorem view_segs {H : Type} {enc : TypeId × Value → H} {P : Program} {w : World} {base : Nat} {held : Bool} {t e ti tb tu : TypeId} {f0 f1 : Field} {fuel : Nat} {v : Value} {x : DataW H × List MemPlace}
    (ht : P.underlying t = some (.slice e)) (he : P.underlying e = some (.struct #[f0, f1])) (hi : P.underlying ti = some (.int .i64)) (hc : P.cellsOf e = 2) (hci : P.cellsOf ti = 1)
    (hb : P.underlying tb = some (.slice tu)) (hu : P.underlying tu = some (.int .u8)) (hcb : P.cellsOf tb = 1) (hcu : P.cellsOf tu = 1)
    (h0 : f0.type = ti) (h1 : f1.type = tb) (o0 : f0.offset = 0) (o1 : f1.offset = 1)
    (h : DataW.trod enc P w base (fun _ => true) held fuel t [v] = some x) :
    ∃ l : List SegD, ∃ ao len cap, v = .slice ao len cap ∧ l.length = len ∧ len ≤ cap ∧ cap ≤ 9223372036854775807 ∧ Segs w ao l ∧ ∀ p ∈ l, (Lit.int .i64 p.1).wf = true := by
  rcases Deep.open_slice ht h with ⟨hcs, _⟩ | ⟨a, len, cap, m, n, D, Pl, hcs, _, hl, hm, hmm, _, hx⟩
  · simp at hcs
    exact ⟨[], none, 0, 0, hcs, rfl, Nat.le_refl _, by decide, Segs.nil _ _, fun p hp => by cases hp⟩
  · simp at hcs
    simp only [if_true] at hmm
    subst hmm
    have each : ∀ i, i < m → ∃ p : SegD, ∃ u : Value, w.cell? (a.add (i * 2)) = some (.int .i64 p.1) ∧ w.cell? ((a.add (i * 2)).add 1) = some u ∧ BSl w u p.2 ∧ (Lit.int .i64 p.1).wf = true := by
      intro i hi'
      obtain ⟨cs', h2, h3⟩ := hx i hi'
      rw [hc] at h2
      obtain ⟨y0, y1, n', _, hlen, h4, h5⟩ := ChangeShapes.trod_struct2 he h3
      rw [hc] at hlen
      obtain ⟨_, _, hcell⟩ := World.cells?_some h2
      match cs', hlen with
      | [c0, c1], _ =>
        rw [h0, o0, hci] at h4
        rw [h1, o1, hcb] at h5
        obtain ⟨x0, e0, _, w0⟩ := DataW.trod_int hi h4
        simp at e0
        subst e0
        obtain ⟨l1, hl1⟩ := view_bsl hb hu hcu (v := c1) (by simpa using h5)
        exact ⟨(x0, l1), c1, by have := hcell 0 (by decide); simpa [Addr.add] using this, by have := hcell 1 (by decide); simpa using this, hl1, w0⟩
    obtain ⟨f, hf⟩ := Deep.choose_lt each
    refine ⟨(List.range len).map f, some a, len, m, hcs, by simp, hl, by unfold maxLen at hm; omega, ?_, ?_⟩
    · intro i p hp
      have hi' : i < len := by have := (List.getElem?_eq_some_iff.1 hp).1; simpa using this
      simp [hi'] at hp
      subst hp
      obtain ⟨b, off, spot⟩ := a
      obtain ⟨u, g1, g2, g3, _⟩ := hf i (by omega)
      have hspot : spot = none := by
        obtain ⟨u0, k1, _⟩ := hf 0 (by omega)
        have := World.cell?_spot k1
        simpa [Addr.add] using this
      subst hspot
      rw [add_add] at g2
      rw [Addr.add_lit] at g1 g2
      exact ⟨b, off, u, rfl, g1, by rw [← Nat.add_assoc] at g2; exact g2, g3⟩
    · intro p hp
      obtain ⟨i, hi', rfl⟩ := List.mem_map.1 hp
      obtain ⟨u, _, _, _, k⟩ := hf i (by have := List.mem_range.1 hi'; omega)
      exact k

end Go.Bs
