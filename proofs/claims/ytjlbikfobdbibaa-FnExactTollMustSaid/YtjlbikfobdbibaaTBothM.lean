/- What the exact law of TollMust wants: program and reference, at one list, end alike. -/
import Derived.Test.YtjlbikfobdbibaaTWalkD
set_option linter.unusedVariables false
namespace Go.Proofs.Ytjlbikfobdbibaa
open Go.RowKit
theorem tmust_both (free f t : Int) (xs : List T3) (hx : xs.length ≤ 1048576) : ∃ (ys : List Int) (b : Bool), ys.length ≤ 2097152 ∧
    (∀ (A : Option Addr) (len c : Nat) (w : World), SlE 3 enc3 w A len xs → len ≤ 1048576 → len ≤ c → Calls Try.prog 33 #[.slice A len c, .int .i64 free, .int .i64 f, .int .i64 t] w (RetOwnB 1 encI 3 ys b w)) ∧
    (∀ (A : Option Addr) (len c : Nat) (w : World), SlE 3 enc3 w A len xs → len ≤ 1048576 → len ≤ c → Calls Try.prog 34 #[.slice A len c, .int .i64 free, .int .i64 f, .int .i64 t] w (RetOwnB 1 encI 3 ys b w)) := by
  by_cases hW : TollOk xs free f t
  · have hl : (must (gAt xs) free (idxIf (inW f t) xs)).length ≤ (idxIf (inW f t) xs).length := by
      have := must_len (g := gAt xs) (free := free) (idxIf (inW f t) xs) _ (Nat.le_refl _)
      rwa [List.take_length] at this
    exact ⟨must (gAt xs) free (idxIf (inW f t) xs), true, by have := idxIf_len (inW f t) xs; omega, fun A len c w h hl _ => specTollMust_any A len c xs free f t _ _ w h hl (.inl ⟨rfl, hW, rfl⟩), fun A len c w h hl _ => implTollMust_any A len c xs free f t _ _ w h hl (.inl ⟨rfl, hW, rfl⟩)⟩
  · exact ⟨[], false, by simp, fun A len c w h hl _ => specTollMust_any A len c xs free f t _ _ w h hl (.inr ⟨rfl, hW, rfl⟩), fun A len c w h hl _ => implTollMust_any A len c xs free f t _ _ w h hl (.inr ⟨rfl, hW, rfl⟩)⟩
end Go.Proofs.Ytjlbikfobdbibaa
