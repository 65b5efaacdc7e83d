/- Opening a slice of bookings. -/
import Derived.Test.YtkknfhabfmpogaaFrame
import Derived.Test.YtkknfhabfmpogaaSBase
set_option linter.unusedVariables false
namespace Go.Proofs.Ytkknfhabfmpogaa
open Go.ChangeShapes Go.WideShapes Go.ChangeAt Go.RowKit Go.Deep

/-- The cells of a struct of three integers. -/
theorem open_cellsB {H : Type} {enc : TypeId × Value → H} {P : Program} {w : World} {base : Nat} {spare : Nat → Bool} {held : Bool} {e : TypeId} {f0 f1 f2 : Field} {n : Nat} {cs : List Value} {x : DataW H × List MemPlace}
    (he : P.underlying e = some (.struct #[f0, f1, f2])) (hone : oneCellFields P #[f0, f1, f2] = true) (hC : P.cellsOf e = 3)
    (i0 : P.underlying f0.type = some (.int .i64)) (i1 : P.underlying f1.type = some (.int .i64)) (i2 : P.underlying f2.type = some .bool)
    (h : DataW.trod enc P w base spare held n e cs = some x) : ∃ p : B3, cs = encB p ∧ (Lit.int .i64 p.a).wf = true ∧ (Lit.int .i64 p.b).wf = true := by
  obtain ⟨xs, m, _, _, hl, hxl, hf⟩ := DataW.trod_struct he h
  obtain ⟨o0, k0⟩ := hone_of hone 0 f0 rfl
  obtain ⟨o1, k1⟩ := hone_of hone 1 f1 rfl
  obtain ⟨o2, k2⟩ := hone_of hone 2 f2 rfl
  rw [hC] at hl
  match cs, hl, xs, hxl with
  | [c0, c1, c2], _, [y0, y1, y2], _ =>
    have h0 := hf 0 f0 rfl
    have h1 := hf 1 f1 rfl
    have h2 := hf 2 f2 rfl
    rw [o0, k0] at h0
    rw [o1, k1] at h1
    rw [o2, k2] at h2
    obtain ⟨a, ha, _, wa⟩ := DataW.trod_int i0 (x := y0) (cs := [c0]) h0
    obtain ⟨b, hb, _, wb⟩ := DataW.trod_int i1 (x := y1) (cs := [c1]) h1
    obtain ⟨c, hc, _⟩ := DataW.trod_bool i2 (x := y2) (cs := [c2]) h2
    injection ha with ha
    injection hb with hb
    injection hc with hc
    subst ha hb hc
    exact ⟨⟨a, b, c⟩, rfl, wa, wb⟩

/-- A slice of structs of three integers reads as a list. -/
theorem open_sliceB {H : Type} {enc : TypeId × Value → H} {P : Program} {w : World} {base : Nat} {spare : Nat → Bool} {held : Bool} {t e : TypeId} {f0 f1 f2 : Field} {A : Option Addr} {len cap : Nat} {d : DataW H} {ps : List MemPlace}
    (ht : P.underlying t = some (.slice e)) (he : P.underlying e = some (.struct #[f0, f1, f2])) (hone : oneCellFields P #[f0, f1, f2] = true) (hC : P.cellsOf e = 3)
    (i0 : P.underlying f0.type = some (.int .i64)) (i1 : P.underlying f1.type = some (.int .i64)) (i2 : P.underlying f2.type = some .bool)
    (h : DataW.Trod enc P w base spare held t (.slice A len cap) d ps) :
    ∃ xs : List B3, SlE 3 encB w A len xs ∧ len ≤ 9223372036854775807 ∧ ∀ p ∈ xs, (Lit.int .i64 p.a).wf = true ∧ (Lit.int .i64 p.b).wf = true := by
  obtain ⟨fuel, hf⟩ := h
  rcases open_slice ht hf with ⟨hcs, _⟩ | ⟨a, l, c, m, n, D, Pl, hcs, hb, hl, hm, hmm, hx, hi⟩
  · simp [Value.cells] at hcs
    obtain ⟨rfl, rfl, rfl⟩ := hcs
    exact ⟨[], ⟨rfl, fun h => absurd h (by omega)⟩, by omega, fun p hp => by simp at hp⟩
  · simp only [Value.cells, List.cons.injEq, Value.slice.injEq, and_true] at hcs
    obtain ⟨rfl, rfl, rfl⟩ := hcs
    have hlm : len ≤ m := by rw [hmm]; split <;> omega
    have key : ∀ i, i < len → ∃ p : B3, (∀ j u, (encB p)[j]? = some u → w.cell? (a.add (i * 3 + j)) = some u) ∧ (Lit.int .i64 p.a).wf = true ∧ (Lit.int .i64 p.b).wf = true := by
      intro i hil
      obtain ⟨cs', hcs', htr⟩ := hi i (by omega)
      obtain ⟨p, rfl, wf⟩ := open_cellsB he hone hC i0 i1 i2 htr
      rw [hC] at hcs'
      obtain ⟨_, _, hat⟩ := World.cells?_some hcs'
      refine ⟨p, fun j u hu => ?_, wf⟩
      have hj : j < 3 := by
        rcases Nat.lt_or_ge j 3 with h | h
        · exact h
        · rw [List.getElem?_eq_none (by rw [encB_len]; exact h)] at hu; cases hu
      have := hat j hj
      rw [hu] at this
      rw [← this]
      unfold Addr.add
      by_cases h1 : i * 3 = 0
      · simp [h1]
      · by_cases h2 : j = 0
        · subst h2; simp
        · have h3 : i * 3 + j ≠ 0 := by omega
          simp [h1, h2, Nat.add_assoc]
    let f : Nat → B3 := fun i => if h : i < len then (key i h).choose else default
    have hfs : ∀ i (h : i < len), f i = (key i h).choose := fun i h => by simp [f, h]
    refine ⟨(List.range len).map f, ⟨by simp, fun hn => ?_⟩, by unfold maxLen at hm; omega, ?_⟩
    · have k0 := (key 0 hn).choose_spec.1 0 _ rfl
      obtain ⟨b, off, spot⟩ := a
      have hspot : spot = none := by have := World.cell?_spot k0; simpa [Addr.add] using this
      subst hspot
      refine ⟨b, off, rfl, by have := World.block_lt_of_cell? w _ k0; simpa [Addr.add] using this, fun j p hp i v hv => ?_⟩
      have hj : j < len := by
        rcases Nat.lt_or_ge j len with h | h
        · exact h
        · rw [List.getElem?_eq_none (by simpa using h)] at hp; cases hp
      simp only [List.getElem?_map, List.getElem?_range hj, Option.map_some, Option.some.injEq] at hp
      rw [hfs j hj] at hp
      subst hp
      have := (key j hj).choose_spec.1 i v hv
      rwa [addr_add] at this
    · intro p hp
      simp only [List.mem_map, List.mem_range] at hp
      obtain ⟨i, hil, rfl⟩ := hp
      rw [hfs i hil]
      exact (key i hil).choose_spec.2

end Go.Proofs.Ytkknfhabfmpogaa
