/- What the exact law of GatesPassed wants: program and reference, at one list, end alike. -/
import Derived.Test.YtjlbikfobdbibaaGWalkB
set_option linter.unusedVariables false
namespace Go.Proofs.Ytjlbikfobdbibaa
open Go.RowKit
theorem passed_both (f t : Int) (xs : List T3) (hx : xs.length ≤ 1048576) : ∃ (ys : List Int), ys.length ≤ 2097152 ∧
    (∀ (A : Option Addr) (len c : Nat) (w : World), SlE 3 enc3 w A len xs → len ≤ 1048576 → len ≤ c → Calls Try.prog 14 #[.slice A len c, .int .i64 f, .int .i64 t] w (RetOwn 1 encI 3 ys w)) ∧
    (∀ (A : Option Addr) (len c : Nat) (w : World), SlE 3 enc3 w A len xs → len ≤ 1048576 → len ≤ c → Calls Try.prog 16 #[.slice A len c, .int .i64 f, .int .i64 t] w (RetOwn 1 encI 3 ys w)) := by
  by_cases hW : WayOk xs f t
  · exact ⟨idxIf (inW f t) xs, by have := idxIf_len (inW f t) xs; omega, fun A len c w h hl _ => specGatesPassed_any A len c xs f t _ w h hl (.inl ⟨hW, rfl⟩), fun A len c w h hl _ => implGatesPassed_any A len c xs f t _ w h hl (.inl ⟨hW, rfl⟩)⟩
  · exact ⟨[], by simp, fun A len c w h hl _ => specGatesPassed_any A len c xs f t _ w h hl (.inr ⟨hW, rfl⟩), fun A len c w h hl _ => implGatesPassed_any A len c xs f t _ w h hl (.inr ⟨hW, rfl⟩)⟩
end Go.Proofs.Ytjlbikfobdbibaa
