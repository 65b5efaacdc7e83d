/- Contracts: sameInts at equal lists of numbers. -/
import Derived.Test.YtgjllminidlolaaGreatDoorOwn
import Derived.Deep.QuietTactic
import Derived.BigQuiet
set_option linter.unusedVariables false
namespace Go.Proofs.YtgjllminidlolaaGreatDoor
open Go.RowKit

set_option maxRecDepth 20000 in
set_option maxHeartbeats 1600000 in
theorem sameInts_yes (A B : Option Addr) (len c d : Nat) (xs : List Int) (w : World) (hA : SlE 1 encI w A len xs) (hB : SlE 1 encI w B len xs) (hn : len ≤ 1048576) :
    Calls Tryz.prog 18 #[.slice A len c, .slice B len d] w (Only (.bool true) w) := by
  have H := Lib.hid hA
  have H' := Lib.hid hB
  clear hA hB
  go_enter Tryz.func18, Tryz.ntmps18
  go_wp2_with fail
  go_loopw [5] (fun i wr => ∃ k : Nat, k ≤ len ∧ i = .int .i64 k ∧ Below w.heap.size w wr) (fun i _ => len - (intOf i).toNat)
  case atStart => exact ⟨0, by omega, rfl, Below.refl _ _⟩
  case round =>
    obtain ⟨k, hk, rfl, hbr⟩ := hrel
    have HR := Lib.hid hbr
    clear hbr
    by_cases hlt : k < len
    · obtain ⟨b1, o1, x, rfl, hl1, hx1, hd1, g0⟩ := at1 H.out HR.out hlt
      obtain ⟨b2, o2, x', rfl, hl2, hx2, hd2, k0⟩ := at1 H'.out HR.out hlt
      rw [hx1] at hx2
      injection hx2 with hx2
      subst hx2
      clear hx1 hd1 hd2
      go_wp2_with fail
      go_quiet (fail)
      have HRq := Lib.hid (show Below w.heap.size w (wr.drewN nq) from ⟨HR.out.os, HR.out.tape, HR.out.output, HR.out.size, HR.out.block⟩)
      go_wp2_with fail
      go_roundw
      case rel => exact ⟨k + 1, by omega, by go_num, HRq.out⟩
      case measure => simp [intOf]; omega
    · go_wp2_with fail
      go_ret
      exact ⟨rfl, HR.out⟩
end Go.Proofs.YtgjllminidlolaaGreatDoor
