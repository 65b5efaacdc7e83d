/- A struct of a booking that a law keeps in a block of its own. -/
import Derived.Test.YtkknfhabfmpogaaBase
import Derived.Deep.RegionHeld3
set_option linter.unusedVariables false
namespace Go.Proofs.Ytkknfhabfmpogaa
open Go.RowKit
theorem cellsB_new (w : World) (x y : Int) (z : Bool) (t : TypeId) : let wz := w.alloc (.cells #[.int .i64 x, .int .i64 y, .bool z] t)
    w.heap.size < wz.heap.size ∧ wz.cell? ⟨w.heap.size, 0, none⟩ = some (.int .i64 x) ∧ wz.cell? ⟨w.heap.size, 1, none⟩ = some (.int .i64 y) ∧ wz.cell? ⟨w.heap.size, 2, none⟩ = some (.bool z) := by
  have h := heap_alloc_new w (.cells #[.int .i64 x, .int .i64 y, .bool z] t)
  exact ⟨by simp, cell_of_row _ _ 0 _ _ _ h, cell_of_row _ _ 1 _ _ _ h, cell_of_row _ _ 2 _ _ _ h⟩
theorem cellsB_below {wz w' : World} {q : Nat} {x y : Int} {z : Bool} (h : q < wz.heap.size ∧ wz.cell? ⟨q, 0, none⟩ = some (.int .i64 x) ∧ wz.cell? ⟨q, 1, none⟩ = some (.int .i64 y) ∧ wz.cell? ⟨q, 2, none⟩ = some (.bool z)) (hb : Below wz.heap.size wz w') :
    q < wz.heap.size ∧ w'.cell? ⟨q, 0, none⟩ = some (.int .i64 x) ∧ w'.cell? ⟨q, 1, none⟩ = some (.int .i64 y) ∧ w'.cell? ⟨q, 2, none⟩ = some (.bool z) :=
  ⟨h.1, ((bcell hb).1 _ _ h.1).trans h.2.1, ((bcell hb).1 _ _ h.1).trans h.2.2.1, ((bcell hb).1 _ _ h.1).trans h.2.2.2⟩
end Go.Proofs.Ytkknfhabfmpogaa
