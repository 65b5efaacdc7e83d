/- How an argument that is a slice of bytes is read. -/
import Derived.Test.YtgjllminidlolaaGreatDoorFrame
import Derived.Test.YtgjllminidlolaaGreatDoorDraw
set_option linter.unusedVariables false
namespace Go.Proofs.YtgjllminidlolaaGreatDoor
open Go.ChangeShapes Go.WideShapes Go.ChangeAt Go.RowKit Go.Deep
/-- A slice of bytes reads as a list. -/
theorem open_sliceU {H : Type} {enc : TypeId × Value → H} {P : Program} {w : World} {base : Nat} {spare : Nat → Bool} {held : Bool} {t e : TypeId} {A : Option Addr} {len cap : Nat} {d : DataW H} {ps : List MemPlace}
    (ht : P.underlying t = some (.slice e)) (he : P.underlying e = some (.int .u8)) (hC : P.cellsOf e = 1)
    (h : DataW.Trod enc P w base spare held t (.slice A len cap) d ps) : ∃ xs : List Int, SlE 1 encU w A len xs ∧ Bytes xs ∧ len ≤ cap := by
  obtain ⟨fuel, hf⟩ := h
  rcases open_ints ht he hC hf with ⟨hcs, _⟩ | ⟨a, l, c, zs, hcs, hb, hl, hm, hz, _, hi, hw⟩
  · simp [Value.cells] at hcs
    obtain ⟨rfl, rfl, rfl⟩ := hcs
    exact ⟨[], ⟨rfl, fun h => absurd h (by omega)⟩, fun v hv => (by cases hv), by omega⟩
  · simp only [Value.cells, List.cons.injEq, Value.slice.injEq, and_true] at hcs
    obtain ⟨rfl, rfl, rfl⟩ := hcs
    have hlz : len ≤ zs.length := by rw [hz]; split <;> omega
    refine ⟨zs.take len, ⟨by rw [List.length_take]; omega, fun hn => ?_⟩, fun v hv => ?_, hl⟩
    · have k0 := hi 0 (by omega)
      obtain ⟨b, off, spot⟩ := a
      have hspot : spot = none := by have := World.cell?_spot k0; simpa [Addr.add] using this
      subst hspot
      refine ⟨b, off, rfl, by have := World.block_lt_of_cell? w _ k0; simpa [Addr.add] using this, fun j p hp i v hv => ?_⟩
      have hj : j < len := by
        rcases Nat.lt_or_ge j len with h | h
        · exact h
        · rw [List.getElem?_eq_none (by rw [List.length_take]; omega)] at hp; cases hp
      have h0 : i = 0 := by
        rcases i with _ | i
        · rfl
        · simp [encU] at hv
      subst h0
      simp only [encU, List.getElem?_cons_zero, Option.some.injEq] at hv
      subst hv
      have := hi j (by omega)
      rw [addr_add] at this
      have e0 : off + (j * 1 + 0) = off + j := by omega
      rw [e0, this]
      rw [List.getElem?_take, if_pos hj] at hp
      rw [List.getD_eq_getElem?_getD, hp]
      rfl
    · have := hw v (List.mem_of_mem_take hv)
      simp [Lit.wf, IntKind.min, IntKind.max, IntKind.bits, IntKind.signed] at this
      omega
end Go.Proofs.YtgjllminidlolaaGreatDoor
