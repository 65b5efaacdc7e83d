/- What the exact law wants of BillOrder. -/
import Derived.Test.YtdfgogcefnamcaaOrdV
set_option linter.unusedVariables false
namespace Go.Proofs.Ytdfgogcefnamcaa
open Go.RowKit
theorem order_both (n : Int) (xs : List T3) (hx : xs.length ≤ 1048576) : ∃ (ys : List T3) (b : Bool), ys.length ≤ 2097152 ∧
    (∀ (A : Option Addr) (len c : Nat) (w : World), SlE 3 enc3 w A len xs → len ≤ 1048576 → len ≤ c → Calls Try.prog 56 #[.int .i64 n, .slice A len c] w (RetOwnB 3 enc3 28 ys b w)) ∧
    (∀ (A : Option Addr) (len c : Nat) (w : World), SlE 3 enc3 w A len xs → len ≤ 1048576 → len ≤ c → Calls Try.prog 55 #[.int .i64 n, .slice A len c] w (RetOwnB 3 enc3 28 ys b w)) := by
  by_cases hB : BillOk n xs
  · exact ⟨isort lessP xs, true, by rw [isort_len]; omega, fun A len c w h hl _ => specBillOrder_any A n len c xs _ true w h hl (.inl ⟨rfl, hB, rfl⟩), fun A len c w h hl _ => implBillOrder_any A n len c xs _ true w h hl (.inl ⟨rfl, hB, rfl⟩)⟩
  · exact ⟨[], false, by simp, fun A len c w h hl _ => specBillOrder_any A n len c xs _ false w h hl (.inr ⟨rfl, hB, rfl⟩), fun A len c w h hl _ => implBillOrder_any A n len c xs _ false w h hl (.inr ⟨rfl, hB, rfl⟩)⟩
end Go.Proofs.Ytdfgogcefnamcaa
