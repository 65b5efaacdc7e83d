/- What the exact law of GatesAdd wants: program and reference, at one list, end alike. -/
import Derived.Test.YtjlbikfobdbibaaGWalkE
set_option linter.unusedVariables false
namespace Go.Proofs.Ytjlbikfobdbibaa
open Go.RowKit
theorem add_both (xs : List T3) (x y z : Int) (hx : xs.length ≤ 1048576) : ∃ (ys : List T3) (b : Bool), ys.length ≤ 2097152 ∧
    (∀ (A : Option Addr) (len c : Nat) (w : World), SlE 3 enc3 w A len xs → len ≤ 1048576 → len ≤ c → Calls Try.prog 27 #[.slice A len c, .agg #[.int .i64 x, .int .i64 y, .int .i64 z]] w (RetOwnB 3 enc3 40 ys b w)) ∧
    (∀ (A : Option Addr) (len c : Nat) (w : World), SlE 3 enc3 w A len xs → len ≤ 1048576 → len ≤ c → Calls Try.prog 29 #[.slice A len c, .agg #[.int .i64 x, .int .i64 y, .int .i64 z]] w (RetOwnB 3 enc3 40 ys b w)) := by
  by_cases hB : AddOk xs ⟨x, y, z⟩
  · exact ⟨ins xs ⟨x, y, z⟩, true, by rw [ins_len]; omega, fun A len c w h hl hc => specGatesAdd_any A len c xs x y z _ _ w h (by omega) hc (.inl ⟨rfl, hB, rfl⟩), fun A len c w h hl hc => implGatesAdd_any A len c xs x y z _ _ w h (by omega) hc (.inl ⟨rfl, hB, rfl⟩)⟩
  · exact ⟨[], false, by simp, fun A len c w h hl hc => specGatesAdd_any A len c xs x y z _ _ w h (by omega) hc (.inr ⟨rfl, hB, rfl⟩), fun A len c w h hl hc => implGatesAdd_any A len c xs x y z _ _ w h (by omega) hc (.inr ⟨rfl, hB, rfl⟩)⟩
end Go.Proofs.Ytjlbikfobdbibaa
