/- What the exact laws want of the functions that return slices: program and reference, at one list, end alike. -/
import Derived.Test.YtcfdccjpbkcigaaWalkE
import Derived.Test.YtcfdccjpbkcigaaWalkF
import Derived.Test.YtcfdccjpbkcigaaWalkG
set_option linter.unusedVariables false
namespace Go.Proofs.Ytcfdccjpbkcigaa
open Go.RowKit
theorem turn_both (n : Int) (xs : List T3) (hx : xs.length ≤ 1048576) : ∃ (ys : List T3) (b : Bool), ys.length ≤ 2097152 ∧
    (∀ (A : Option Addr) (len c : Nat) (w : World), SlE 3 enc3 w A len xs → len ≤ 1048576 → len ≤ c → Calls Try.prog 24 #[.int .i64 n, .slice A len c] w (RetOwnB 3 enc3 45 ys b w)) ∧
    (∀ (A : Option Addr) (len c : Nat) (w : World), SlE 3 enc3 w A len xs → len ≤ 1048576 → len ≤ c → Calls Try.prog 25 #[.int .i64 n, .slice A len c] w (RetOwnB 3 enc3 45 ys b w)) := by
  by_cases hB : BillOk n xs
  · exact ⟨turned n xs, true, by rw [turned_len]; omega, fun A len c w h hl _ => specBillTurn_yes A n len c xs w h (by omega) hB, fun A len c w h hl _ => implBillTurn_yes A n len c xs w h (by omega) hB⟩
  · exact ⟨[], false, by simp, fun A len c w h hl _ => specBillTurn_no A n len c xs w h (by omega) hB, fun A len c w h hl _ => implBillTurn_no A n len c xs w h (by omega) hB⟩
theorem loads_both (n : Int) (xs : List T3) (hx : xs.length ≤ 1048576) : ∃ (ys : List Int) (b : Bool), ys.length ≤ 2097152 ∧
    (∀ (A : Option Addr) (len c : Nat) (w : World), SlE 3 enc3 w A len xs → len ≤ 1048576 → len ≤ c → Calls Try.prog 28 #[.int .i64 n, .slice A len c] w (RetOwnB 1 encI 3 ys b w)) ∧
    (∀ (A : Option Addr) (len c : Nat) (w : World), SlE 3 enc3 w A len xs → len ≤ 1048576 → len ≤ c → Calls Try.prog 29 #[.int .i64 n, .slice A len c] w (RetOwnB 1 encI 3 ys b w)) := by
  by_cases hB : BillOk n xs
  · obtain ⟨m, rfl⟩ : ∃ m : Nat, n = m := ⟨n.toNat, by have := hB.1; omega⟩
    exact ⟨loads xs m, true, by rw [loads_len]; have := hB.2.1; omega, fun A len c w h hl _ => specBillLoads_yes A m len c xs w h (by omega) hB, fun A len c w h hl _ => implBillLoads_yes A m len c xs w h (by omega) hB⟩
  · exact ⟨[], false, by simp, fun A len c w h hl _ => specBillLoads_no A n len c xs w h (by omega) hB, fun A len c w h hl _ => implBillLoads_no A n len c xs w h (by omega) hB⟩
theorem drop_both (n k : Int) (xs : List T3) (hx : xs.length ≤ 1048576) : ∃ (ys : List T3) (b : Bool), ys.length ≤ 2097152 ∧
    (∀ (A : Option Addr) (len c : Nat) (w : World), SlE 3 enc3 w A len xs → len ≤ 1048576 → len ≤ c → Calls Try.prog 33 #[.int .i64 n, .slice A len c, .int .i64 k] w (RetOwnB 3 enc3 45 ys b w)) ∧
    (∀ (A : Option Addr) (len c : Nat) (w : World), SlE 3 enc3 w A len xs → len ≤ 1048576 → len ≤ c → Calls Try.prog 34 #[.int .i64 n, .slice A len c, .int .i64 k] w (RetOwnB 3 enc3 45 ys b w)) := by
  by_cases hB : BillOk n xs ∧ 0 ≤ k ∧ k < xs.length
  · obtain ⟨hB, hk0, hk1⟩ := hB
    obtain ⟨m, rfl⟩ : ∃ m : Nat, k = m := ⟨k.toNat, by omega⟩
    exact ⟨xs.eraseIdx m, true, by rw [List.length_eraseIdx]; split <;> omega, fun A len c w h hl hc => specBillDrop_yes A n m len c xs w h (by omega) hc hB (by have := h.len; omega), fun A len c w h hl hc => implBillDrop_yes A n m len c xs w h (by omega) hc hB (by have := h.len; omega)⟩
  · exact ⟨[], false, by simp, fun A len c w h hl _ => specBillDrop_no A n k len c xs w h (by omega) (by rw [← h.len]; exact hB), fun A len c w h hl _ => implBillDrop_no A n k len c xs w h (by omega) (by rw [← h.len]; exact hB)⟩
theorem join_both (n : Int) (xs xs' : List T3) (hx : xs.length ≤ 1048576) (hx' : xs'.length ≤ 1048576) : ∃ (ys : List T3) (b : Bool), ys.length ≤ 2097152 ∧
    (∀ (A : Option Addr) (len c : Nat) (A' : Option Addr) (len' c' : Nat) (w : World), SlE 3 enc3 w A len xs → len ≤ 1048576 → len ≤ c → SlE 3 enc3 w A' len' xs' → len' ≤ 1048576 → len' ≤ c' →
      Calls Try.prog 38 #[.int .i64 n, .slice A len c, .slice A' len' c'] w (RetOwnB 3 enc3 45 ys b w)) ∧
    (∀ (A : Option Addr) (len c : Nat) (A' : Option Addr) (len' c' : Nat) (w : World), SlE 3 enc3 w A len xs → len ≤ 1048576 → len ≤ c → SlE 3 enc3 w A' len' xs' → len' ≤ 1048576 → len' ≤ c' →
      Calls Try.prog 39 #[.int .i64 n, .slice A len c, .slice A' len' c'] w (RetOwnB 3 enc3 45 ys b w)) := by
  by_cases hB : BillOk n xs' ∧ JoinOk n xs xs'
  · exact ⟨xs ++ xs', true, by rw [List.length_append]; omega, fun A len c A' len' c' w h hl _ h' hl' _ => specBillJoin_any A A' n len c len' c' xs xs' _ _ w h h' (by omega) (by omega) (.inl ⟨rfl, hB, rfl⟩),
      fun A len c A' len' c' w h hl _ h' hl' _ => implBillJoin_any A A' n len c len' c' xs xs' _ _ w h h' (by omega) (by omega) (.inl ⟨rfl, hB, rfl⟩)⟩
  · exact ⟨[], false, by simp, fun A len c A' len' c' w h hl _ h' hl' _ => specBillJoin_any A A' n len c len' c' xs xs' _ _ w h h' (by omega) (by omega) (.inr ⟨rfl, hB, rfl⟩),
      fun A len c A' len' c' w h hl _ h' hl' _ => implBillJoin_any A A' n len c len' c' xs xs' _ _ w h h' (by omega) (by omega) (.inr ⟨rfl, hB, rfl⟩)⟩
theorem add_both (n : Int) (xs : List T3) (x y z : Int) (hx : xs.length ≤ 1048576) : ∃ (ys : List T3) (b : Bool), ys.length ≤ 2097152 ∧
    (∀ (A : Option Addr) (len c : Nat) (w : World), SlE 3 enc3 w A len xs → len ≤ 1048576 → len ≤ c → Calls Try.prog 35 #[.int .i64 n, .slice A len c, .agg #[.int .i64 x, .int .i64 y, .int .i64 z]] w (RetOwnB 3 enc3 45 ys b w)) ∧
    (∀ (A : Option Addr) (len c : Nat) (w : World), SlE 3 enc3 w A len xs → len ≤ 1048576 → len ≤ c → Calls Try.prog 37 #[.int .i64 n, .slice A len c, .agg #[.int .i64 x, .int .i64 y, .int .i64 z]] w (RetOwnB 3 enc3 45 ys b w)) := by
  by_cases hB : JoinOk n xs [⟨x, y, z⟩]
  · exact ⟨xs ++ [⟨x, y, z⟩], true, by rw [List.length_append, List.length_singleton]; omega, fun A len c w h hl _ => specBillAdd_any A n len c xs x y z _ _ w h (by omega) (.inl ⟨rfl, hB, rfl⟩), fun A len c w h hl _ => implBillAdd_any A n len c xs x y z _ _ w h (by omega) (.inl ⟨rfl, hB, rfl⟩)⟩
  · exact ⟨[], false, by simp, fun A len c w h hl _ => specBillAdd_any A n len c xs x y z _ _ w h (by omega) (.inr ⟨rfl, hB, rfl⟩), fun A len c w h hl _ => implBillAdd_any A n len c xs x y z _ _ w h (by omega) (.inr ⟨rfl, hB, rfl⟩)⟩
end Go.Proofs.Ytcfdccjpbkcigaa
