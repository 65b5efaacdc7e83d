/- Contracts: SeatingValid of the reference. -/
import Derived.Test.YtgjllminidlolaaGreatDoorSWalkF
import Derived.Deep.RegionHeld3
set_option linter.unusedVariables false
namespace Go.Proofs.YtgjllminidlolaaGreatDoor
open Go.RowKit

theorem cellB_of {w wr : World} {b off n : Nat} {xs : List B3} (h : SlE 3 encB w (some ⟨b, off, none⟩) n xs) (hb : Below w.heap.size w wr) {j : Nat} {x y : Int} {z : Bool} (hx : xs[j]? = some ⟨x, y, z⟩) :
    wr.cell? ⟨b, off + j * 3, none⟩ = some (.int .i64 x) ∧ wr.cell? ⟨b, off + j * 3 + 1, none⟩ = some (.int .i64 y) ∧ wr.cell? ⟨b, off + j * 3 + 2, none⟩ = some (.bool z) := by
  have hj : j < n := by rw [← h.len]; exact (List.getElem?_eq_some_iff.1 hx).1
  obtain ⟨b', off', x1, y1, z1, hA, -, hx1, -, g0, g1, g2⟩ := atB h hb hj
  injection hA with hA
  injection hA with e1 e2
  subst e1 e2
  rw [hx] at hx1
  injection hx1 with hx1
  injection hx1 with e1 e2 e3
  subst e1 e2 e3
  exact ⟨g0, g1, g2⟩
theorem cell1_of {w wr : World} {b off n : Nat} {xs : List Int} (h : SlE 1 encI w (some ⟨b, off, none⟩) n xs) (hb : Below w.heap.size w wr) {j : Nat} {x : Int} (hx : xs[j]? = some x) : wr.cell? ⟨b, off + j, none⟩ = some (.int .i64 x) := by
  have hj : j < n := by rw [← h.len]; exact (List.getElem?_eq_some_iff.1 hx).1
  obtain ⟨b', off', x1, hA, -, hx1, -, g0⟩ := at1 h hb hj
  injection hA with hA
  injection hA with e1 e2
  subst e1 e2
  rw [hx] at hx1
  injection hx1 with hx1
  subst hx1
  exact g0

set_option maxRecDepth 20000 in
set_option maxHeartbeats 1600000 in
theorem l4Meet_any (p q : B3) (w : World) :
    Calls Tryz.prog 86 #[.agg #[.int .i64 p.a, .int .i64 p.b, .bool p.c], .agg #[.int .i64 q.a, .int .i64 q.b, .bool q.c]] w (OnlyB (meetB p q) w) := by
  obtain ⟨a, b, c⟩ := p
  obtain ⟨a', b', c'⟩ := q
  have HB := Lib.hid (below_alloc (below_alloc (Below.refl w.heap.size w) (.cells #[.int .i64 a, .int .i64 b, .bool c] 34)) (.cells #[.int .i64 a', .int .i64 b', .bool c'] 34))
  dsimp only
  by_cases hk : c = c'
  · subst hk
    by_cases h1 : a < b'
    · by_cases h2 : a' < b
      · go_enter Tryz.func86, Tryz.ntmps86
        go_wp2_with fail
        go_ret
        exact onlyB_true ⟨rfl, h1, h2⟩ HB.out
      · have d2 : decide (a' < b) = false := by simpa using h2
        have HN := Lib.hid h2
        clear h2
        go_enter Tryz.func86, Tryz.ntmps86
        go_wp2_with fail
        go_ret
        exact onlyB_false (fun hh => by have := HN.out; have := hh.2.2; dsimp only at this; omega) HB.out
    · have d1 : decide (a < b') = false := by simpa using h1
      have HN := Lib.hid h1
      clear h1
      go_enter Tryz.func86, Tryz.ntmps86
      go_wp2_with fail
      go_ret
      exact onlyB_false (fun hh => by have := HN.out; have := hh.2.1; dsimp only at this; omega) HB.out
  · have d0 : (c == c') = false := by simpa using hk
    have HN := Lib.hid (show ¬ meetB ⟨a, b, c⟩ ⟨a', b', c'⟩ from fun hh => hk hh.1)
    clear hk
    go_enter Tryz.func86, Tryz.ntmps86
    go_wp2_with fail
    go_ret
    exact onlyB_false HN.out HB.out

end Go.Proofs.YtgjllminidlolaaGreatDoor
