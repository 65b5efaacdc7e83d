/- What the exact law of TollBest wants: program and reference, at one list, end alike. -/
import Derived.Test.YtjlbikfobdbibaaTWalkI
set_option linter.unusedVariables false
namespace Go.Proofs.Ytjlbikfobdbibaa
open Go.RowKit
theorem tbest_both (free f t : Int) (xs : List T3) (hx : xs.length ≤ 1048576) : ∃ (ys : List Int) (b : Bool), ys.length ≤ 2097152 ∧
    (∀ (A : Option Addr) (len c : Nat) (w : World), SlE 3 enc3 w A len xs → len ≤ 1048576 → len ≤ c → Calls Try.prog 41 #[.slice A len c, .int .i64 free, .int .i64 f, .int .i64 t] w (RetOwnB 1 encI 3 ys b w)) ∧
    (∀ (A : Option Addr) (len c : Nat) (w : World), SlE 3 enc3 w A len xs → len ≤ 1048576 → len ≤ c → Calls Try.prog 42 #[.slice A len c, .int .i64 free, .int .i64 f, .int .i64 t] w (RetOwnB 1 encI 3 ys b w)) := by
  by_cases hW : TollOk xs free f t
  · exact ⟨_, true, by have h1 := best_len (g := gAt xs) (free := free) (idxIf (inW f t) xs) (fun _ => -1); have := idxIf_len (inW f t) xs; omega, fun A len c w h hl _ => specTollBest_any A len c xs free f t _ _ w h hl (.inl ⟨rfl, hW, rfl⟩), fun A len c w h hl _ => implTollBest_any A len c xs free f t _ _ w h hl (.inl ⟨rfl, hW, rfl⟩)⟩
  · exact ⟨[], false, by simp, fun A len c w h hl _ => specTollBest_any A len c xs free f t _ _ w h hl (.inr ⟨rfl, hW, rfl⟩), fun A len c w h hl _ => implTollBest_any A len c xs free f t _ _ w h hl (.inr ⟨rfl, hW, rfl⟩)⟩
end Go.Proofs.Ytjlbikfobdbibaa
