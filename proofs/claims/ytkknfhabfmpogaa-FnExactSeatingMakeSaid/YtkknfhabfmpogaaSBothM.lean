/- What the exact law of SeatingMake wants: program and reference, at one list, end alike. -/
import Derived.Test.YtkknfhabfmpogaaSWalkI
set_option linter.unusedVariables false
namespace Go.Proofs.Ytkknfhabfmpogaa
open Go.RowKit
theorem smake_both (n : Int) (xs : List B3) (hx : xs.length ≤ 1048576) : ∃ (ys : List Int) (b : Bool), ys.length ≤ 2097152 ∧
    (∀ (A : Option Addr) (len c : Nat) (w : World), SlE 3 encB w A len xs → len ≤ 1048576 → len ≤ c → Calls Try.prog 22 #[.int .i64 n, .slice A len c] w (RetOwnB 1 encI 3 ys b w)) ∧
    (∀ (A : Option Addr) (len c : Nat) (w : World), SlE 3 encB w A len xs → len ≤ 1048576 → len ≤ c → Calls Try.prog 12 #[.int .i64 n, .slice A len c] w (RetOwnB 1 encI 3 ys b w)) := by
  by_cases hB : BookOk n xs
  · obtain ⟨m, rfl⟩ : ∃ m : Nat, n = m := ⟨n.toNat, by have := hB.1; omega⟩
    exact ⟨plan xs m, true, by rw [plan_len hB]; omega, fun A len c w h hl _ => specSeatingMake_yes A m len c xs w h hB, fun A len c w h hl _ => implSeatingMake_yes A m len c xs w h hB⟩
  · exact ⟨[], false, by simp, fun A len c w h hl _ => specSeatingMake_no A n len c xs w h (by omega) hB, fun A len c w h hl _ => implSeatingMake_no A n len c xs w h (by omega) hB⟩
end Go.Proofs.Ytkknfhabfmpogaa
