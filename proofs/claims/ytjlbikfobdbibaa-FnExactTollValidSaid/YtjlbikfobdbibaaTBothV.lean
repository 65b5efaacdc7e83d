/- What the exact law of TollValid wants: program and reference, at the same lists, end alike. -/
import Derived.Test.YtjlbikfobdbibaaTWalkC
set_option linter.unusedVariables false
namespace Go.Proofs.Ytjlbikfobdbibaa
open Go.RowKit
theorem onlyB_dec {p : Prop} [Decidable p] {w w' : World} {e : Ending} (h : OnlyB p w e w') : Only (.bool (decide p)) w e w' := by
  by_cases hp : p
  · rw [decide_eq_true hp]; exact h.yes hp
  · rw [decide_eq_false hp]; exact h.no hp
open Classical in
theorem tvalid_both (free f t : Int) (xs : List T3) (ps : List Int) : ∃ r : Bool,
    (∀ (A : Option Addr) (len c : Nat) (B : Option Addr) (m d : Nat) (w : World), SlE 3 enc3 w A len xs → len ≤ 1048576 → len ≤ c → SlE 1 encI w B m ps → m ≤ 1048576 → m ≤ d → Calls Try.prog 30 #[.slice A len c, .int .i64 free, .int .i64 f, .int .i64 t, .slice B m d] w (Only (.bool r) w)) ∧
    (∀ (A : Option Addr) (len c : Nat) (B : Option Addr) (m d : Nat) (w : World), SlE 3 enc3 w A len xs → len ≤ 1048576 → len ≤ c → SlE 1 encI w B m ps → m ≤ 1048576 → m ≤ d → Calls Try.prog 32 #[.slice A len c, .int .i64 free, .int .i64 f, .int .i64 t, .slice B m d] w (Only (.bool r) w)) :=
  ⟨decide (PayOk xs free f t ps), fun A len c B m d w h hl _ h' hl' _ => (specTollValid_any A B len c m d xs free f t ps w h h' hl hl').mono fun _ _ => onlyB_dec,
    fun A len c B m d w h hl _ h' hl' _ => (implTollValid_any A B len c m d xs free f t ps w h h' hl hl').mono fun _ _ => onlyB_dec⟩
end Go.Proofs.Ytjlbikfobdbibaa
