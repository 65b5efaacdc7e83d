/- How an argument that is a slice of ints is read. -/
import Derived.Test.YtkknfhabfmpogaaFrame
set_option linter.unusedVariables false
namespace Go.Proofs.Ytkknfhabfmpogaa
open Go.ChangeShapes Go.WideShapes Go.ChangeAt Go.RowKit Go.Deep
/-- A slice of ints reads as a list. -/
theorem open_slice1 {H : Type} {enc : TypeId × Value → H} {P : Program} {w : World} {base : Nat} {spare : Nat → Bool} {held : Bool} {t e : TypeId} {A : Option Addr} {len cap : Nat} {d : DataW H} {ps : List MemPlace}
    (ht : P.underlying t = some (.slice e)) (he : P.underlying e = some (.int .i64)) (hC : P.cellsOf e = 1)
    (h : DataW.Trod enc P w base spare held t (.slice A len cap) d ps) : ∃ xs : List Int, SlE 1 encI w A len xs ∧ len ≤ 9223372036854775807 := by
  obtain ⟨fuel, hf⟩ := h
  rcases open_ints ht he hC hf with ⟨hcs, _⟩ | ⟨a, l, c, zs, hcs, hb, hl, hm, hz, _, hi, _⟩
  · simp [Value.cells] at hcs
    obtain ⟨rfl, rfl, rfl⟩ := hcs
    exact ⟨[], ⟨rfl, fun h => absurd h (by omega)⟩, by omega⟩
  · simp only [Value.cells, List.cons.injEq, Value.slice.injEq, and_true] at hcs
    obtain ⟨rfl, rfl, rfl⟩ := hcs
    have hlz : len ≤ zs.length := by rw [hz]; split <;> omega
    refine ⟨zs.take len, ⟨by rw [List.length_take]; omega, fun hn => ?_⟩, by unfold maxLen at hm; omega⟩
    have k0 := hi 0 (by omega)
    obtain ⟨b, off, spot⟩ := a
    have hspot : spot = none := by have := World.cell?_spot k0; simpa [Addr.add] using this
    subst hspot
    refine ⟨b, off, rfl, by have := World.block_lt_of_cell? w _ k0; simpa [Addr.add] using this, fun j p hp i v hv => ?_⟩
    have hj : j < len := by
      rcases Nat.lt_or_ge j len with h | h
      · exact h
      · rw [List.getElem?_eq_none (by rw [List.length_take]; omega)] at hp; cases hp
    have h0 : i = 0 := by
      rcases i with _ | i
      · rfl
      · simp [encI] at hv
    subst h0
    simp only [encI, List.getElem?_cons_zero, Option.some.injEq] at hv
    subst hv
    have := hi j (by omega)
    rw [addr_add] at this
    have e0 : off + (j * 1 + 0) = off + j := by omega
    rw [e0, this]
    rw [List.getElem?_take, if_pos hj] at hp
    rw [List.getD_eq_getElem?_getD, hp]
    rfl
end Go.Proofs.Ytkknfhabfmpogaa
