/- What the exact law of TollLeast wants: program and reference, at one list, end alike. -/
import Derived.Test.YtjlbikfobdbibaaTWalkH
set_option linter.unusedVariables false
namespace Go.Proofs.Ytjlbikfobdbibaa
open Go.RowKit
theorem tleast_both (free f t : Int) (xs : List T3) : ∃ r : Int,
    (∀ (A : Option Addr) (len c : Nat) (w : World), SlE 3 enc3 w A len xs → len ≤ 1048576 → len ≤ c → Calls Try.prog 39 #[.slice A len c, .int .i64 free, .int .i64 f, .int .i64 t] w (Only (.int .i64 r) w)) ∧
    (∀ (A : Option Addr) (len c : Nat) (w : World), SlE 3 enc3 w A len xs → len ≤ 1048576 → len ≤ c → Calls Try.prog 40 #[.slice A len c, .int .i64 free, .int .i64 f, .int .i64 t] w (Only (.int .i64 r) w)) := by
  by_cases hW : TollOk xs free f t
  · exact ⟨_, fun A len c w h hl _ => specTollLeast_any A len c xs free f t _ w h hl (.inl ⟨hW, rfl⟩), fun A len c w h hl _ => implTollLeast_any A len c xs free f t _ w h hl (.inl ⟨hW, rfl⟩)⟩
  · exact ⟨_, fun A len c w h hl _ => specTollLeast_any A len c xs free f t _ w h hl (.inr ⟨hW, rfl⟩), fun A len c w h hl _ => implTollLeast_any A len c xs free f t _ w h hl (.inr ⟨hW, rfl⟩)⟩
end Go.Proofs.Ytjlbikfobdbibaa
