/- What the exact law of GatesDrop wants: program and reference, at one list, end alike. -/
import Derived.Test.YtjlbikfobdbibaaGWalkD
set_option linter.unusedVariables false
namespace Go.Proofs.Ytjlbikfobdbibaa
open Go.RowKit
theorem drop_both (k : Int) (xs : List T3) (hx : xs.length ≤ 1048576) : ∃ (ys : List T3) (b : Bool), ys.length ≤ 2097152 ∧
    (∀ (A : Option Addr) (len c : Nat) (w : World), SlE 3 enc3 w A len xs → len ≤ 1048576 → len ≤ c → Calls Try.prog 22 #[.slice A len c, .int .i64 k] w (RetOwnB 3 enc3 40 ys b w)) ∧
    (∀ (A : Option Addr) (len c : Nat) (w : World), SlE 3 enc3 w A len xs → len ≤ 1048576 → len ≤ c → Calls Try.prog 23 #[.slice A len c, .int .i64 k] w (RetOwnB 3 enc3 40 ys b w)) := by
  by_cases hB : GatesOk xs ∧ 0 ≤ k ∧ k < xs.length
  · obtain ⟨hB, hk0, hk1⟩ := hB
    obtain ⟨m, rfl⟩ : ∃ m : Nat, k = m := ⟨k.toNat, by omega⟩
    exact ⟨xs.eraseIdx m, true, by rw [List.length_eraseIdx]; split <;> omega, fun A len c w h hl hc => specGatesDrop_yes A m len c xs w h (by omega) hc hB (by have := h.len; omega), fun A len c w h hl hc => implGatesDrop_yes A m len c xs w h (by omega) hc hB (by have := h.len; omega)⟩
  · exact ⟨[], false, by simp, fun A len c w h hl _ => specGatesDrop_no A k len c xs w h (by omega) (by rw [← h.len]; exact hB), fun A len c w h hl _ => implGatesDrop_no A k len c xs w h (by omega) (by rw [← h.len]; exact hB)⟩
end Go.Proofs.Ytjlbikfobdbibaa
