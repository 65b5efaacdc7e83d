/- Bookings in memory: an element in three cells, the last of them a bool. -/
import Derived.Test.YtgjllminidlolaaGreatDoorPlains
import Derived.Test.YtgjllminidlolaaGreatDoorOwn
set_option linter.unusedVariables false
namespace Go.Proofs.YtgjllminidlolaaGreatDoor
open Go.RowKit

def encB (p : B3) : List Value := [.int .i64 p.a, .int .i64 p.b, .bool p.c]
theorem encB_len (p : B3) : (encB p).length = 3 := rfl
theorem encB_one (p : B3) : ∀ u ∈ encB p, u.oneCell' = true := by
  intro u hu
  simp only [encB, List.mem_cons, List.not_mem_nil, or_false] at hu
  rcases hu with rfl | rfl | rfl <;> rfl
/-- A booking of a slice, in a later world. -/
theorem atB {w wr : World} {A : Option Addr} {n : Nat} {xs : List B3} (h : SlE 3 encB w A n xs) (hb : Below w.heap.size w wr) {j : Nat} (hj : j < n) :
    ∃ b off x y z, A = some ⟨b, off, none⟩ ∧ b < wr.heap.size ∧ xs[j]? = some ⟨x, y, z⟩ ∧ xs.drop j = ⟨x, y, z⟩ :: xs.drop (j + 1) ∧
      wr.cell? ⟨b, off + j * 3, none⟩ = some (.int .i64 x) ∧ wr.cell? ⟨b, off + j * 3 + 1, none⟩ = some (.int .i64 y) ∧ wr.cell? ⟨b, off + j * 3 + 2, none⟩ = some (.bool z) := by
  obtain ⟨b, off, ⟨x, y, z⟩, hA, hlt, hx, hd, hc⟩ := (h.below hb).at_ hj
  exact ⟨b, off, x, y, z, hA, hlt, hx, hd, hc 0 _ rfl, hc 1 _ rfl, hc 2 _ rfl⟩
/-- The same, with what keeps the cells. -/
theorem atBk {w wr : World} {A : Option Addr} {n : Nat} {xs : List B3} (h : SlE 3 encB w A n xs) (hb : Below w.heap.size w wr) {j : Nat} (hj : j < n) :
    ∃ b off x y z, A = some ⟨b, off, none⟩ ∧ xs[j]? = some ⟨x, y, z⟩ ∧
      (∀ w', Below w.heap.size w w' → w'.cell? ⟨b, off + j * 3, none⟩ = some (.int .i64 x) ∧ w'.cell? ⟨b, off + j * 3 + 1, none⟩ = some (.int .i64 y) ∧ w'.cell? ⟨b, off + j * 3 + 2, none⟩ = some (.bool z)) := by
  obtain ⟨b, off, ⟨x, y, z⟩, hA, hlt, hx, hd, hc⟩ := h.at_ hj
  exact ⟨b, off, x, y, z, hA, hx, fun w' hw => ⟨(hw.cell (p := ⟨b, _, none⟩) hlt).trans (hc 0 _ rfl), (hw.cell (p := ⟨b, _, none⟩) hlt).trans (hc 1 _ rfl), (hw.cell (p := ⟨b, _, none⟩) hlt).trans (hc 2 _ rfl)⟩⟩
theorem OwnE.cellB {ty base : Nat} {w : World} {g c n : Nat} {xs : List B3} (h : OwnE 3 encB ty base w (.slice (some ⟨g, 0, none⟩) n c) xs) {j : Nat} {x y : Int} {z : Bool} (hp : xs[j]? = some ⟨x, y, z⟩) :
    w.cell? ⟨g, j * 3, none⟩ = some (.int .i64 x) ∧ w.cell? ⟨g, j * 3 + 1, none⟩ = some (.int .i64 y) ∧ w.cell? ⟨g, j * 3 + 2, none⟩ = some (.bool z) :=
  ⟨OwnE.cell encB_len h hp (i := 0) rfl, OwnE.cell encB_len h hp (i := 1) rfl, OwnE.cell encB_len h hp (i := 2) rfl⟩
end Go.Proofs.YtgjllminidlolaaGreatDoor
