/- What the exact law of SeatingValid wants: program and reference, at the same lists, end alike. -/
import Derived.Test.YtkknfhabfmpogaaSWalkG
set_option linter.unusedVariables false
namespace Go.Proofs.Ytkknfhabfmpogaa
open Go.RowKit
theorem onlyB_dec {p : Prop} [Decidable p] {w w' : World} {e : Ending} (h : OnlyB p w e w') : Only (.bool (decide p)) w e w' := by
  by_cases hp : p
  · rw [decide_eq_true hp]; exact h.yes hp
  · rw [decide_eq_false hp]; exact h.no hp
open Classical in
theorem svalid_both (n : Int) (xs : List B3) (ys : List Int) : ∃ r : Bool,
    (∀ (A : Option Addr) (len c : Nat) (B : Option Addr) (m d : Nat) (w : World), SlE 3 encB w A len xs → len ≤ 1048576 → len ≤ c → SlE 1 encI w B m ys → m ≤ 1048576 → m ≤ d → Calls Try.prog 14 #[.int .i64 n, .slice A len c, .slice B m d] w (Only (.bool r) w)) ∧
    (∀ (A : Option Addr) (len c : Nat) (B : Option Addr) (m d : Nat) (w : World), SlE 3 encB w A len xs → len ≤ 1048576 → len ≤ c → SlE 1 encI w B m ys → m ≤ 1048576 → m ≤ d → Calls Try.prog 17 #[.int .i64 n, .slice A len c, .slice B m d] w (Only (.bool r) w)) :=
  ⟨decide (BookOk n xs ∧ SeatOk xs ys), fun A len c B m d w h hl _ h' hl' _ => (specSeatingValid_any A B n len c m d xs ys w h h' (by omega)).mono fun _ _ => onlyB_dec,
    fun A len c B m d w h hl _ h' hl' _ => (implSeatingValid_any A B n len c m d xs ys w h h' (by omega)).mono fun _ _ => onlyB_dec⟩
end Go.Proofs.Ytkknfhabfmpogaa
