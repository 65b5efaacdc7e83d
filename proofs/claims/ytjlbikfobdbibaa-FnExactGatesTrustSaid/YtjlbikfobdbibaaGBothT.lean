/- What the exact law of GatesTrust wants: program and reference, at one list, end alike. -/
import Derived.Test.YtjlbikfobdbibaaGWalkT
set_option linter.unusedVariables false
namespace Go.Proofs.Ytjlbikfobdbibaa
open Go.RowKit
theorem trust_both (t : Int) (xs : List T3) (hw : (Lit.int .i64 t).wf = true) (hx : xs.length ≤ 1048576) : ∃ (ys : List Int), ys.length ≤ 2097152 ∧
    (∀ (A : Option Addr) (len c : Nat) (w : World), SlE 3 enc3 w A len xs → len ≤ 1048576 → len ≤ c → Calls Try.prog 25 #[.slice A len c, .int .i64 t] w (RetOwn 1 encI 3 ys w)) ∧
    (∀ (A : Option Addr) (len c : Nat) (w : World), SlE 3 enc3 w A len xs → len ≤ 1048576 → len ≤ c → Calls Try.prog 26 #[.slice A len c, .int .i64 t] w (RetOwn 1 encI 3 ys w)) := by
  by_cases hW : GatesOk xs
  · exact ⟨idxIf (isT t) xs, by have := idxIf_len (isT t) xs; omega, fun A len c w h hl _ => specGatesTrust_any A len c xs t _ w h hl (.inl ⟨hW, rfl⟩), fun A len c w h hl _ => implGatesTrust_any A len c xs t _ w hw h hl (.inl ⟨hW, rfl⟩)⟩
  · exact ⟨[], by simp, fun A len c w h hl _ => specGatesTrust_any A len c xs t _ w h hl (.inr ⟨hW, rfl⟩), fun A len c w h hl _ => implGatesTrust_any A len c xs t _ w hw h hl (.inr ⟨hW, rfl⟩)⟩
end Go.Proofs.Ytjlbikfobdbibaa
