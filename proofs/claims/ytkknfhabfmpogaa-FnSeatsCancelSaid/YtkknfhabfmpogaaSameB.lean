/- Contracts: sameBookings at equal lists. -/
import Derived.Test.YtkknfhabfmpogaaSBase
import Derived.Deep.QuietTactic
import Derived.BigQuiet
set_option linter.unusedVariables false
namespace Go.Proofs.Ytkknfhabfmpogaa
open Go.RowKit

set_option maxRecDepth 20000 in
set_option maxHeartbeats 1600000 in
theorem sameBookings_yes (A B : Option Addr) (len c d : Nat) (xs : List B3) (w : World) (hA : SlE 3 encB w A len xs) (hB : SlE 3 encB w B len xs) (hn : len ≤ 1048576) :
    Calls Try.prog 32 #[.slice A len c, .slice B len d] w (Only (.bool true) w) := by
  have H := Lib.hid hA
  have H' := Lib.hid hB
  clear hA hB
  go_enter Try.func32, Try.ntmps32
  go_wp2_with fail
  go_loopw [5] (fun i wr => ∃ k : Nat, k ≤ len ∧ i = .int .i64 k ∧ Below w.heap.size w wr) (fun i _ => len - (intOf i).toNat)
  case atStart => exact ⟨0, by omega, rfl, Below.refl _ _⟩
  case round =>
    obtain ⟨k, hk, rfl, hbr⟩ := hrel
    have HR := Lib.hid hbr
    clear hbr
    by_cases hlt : k < len
    · obtain ⟨b1, o1, x, y, z, rfl, hl1, hx1, hd1, g0, g1, g2⟩ := atB H.out HR.out hlt
      obtain ⟨b2, o2, x', y', z', rfl, hl2, hx2, hd2, k0, k1, k2⟩ := atB H'.out HR.out hlt
      rw [hx1] at hx2
      injection hx2 with hx2
      injection hx2 with e1 e2 e3
      subst e1 e2 e3
      clear hx1 hd1 hd2
      go_wp2_with fail
      go_quiet (fail)
      have HRq := Lib.hid (show Below w.heap.size w (wr.drewN nq) from ⟨HR.out.os, HR.out.tape, HR.out.output, HR.out.size, HR.out.block⟩)
      go_wp2_with fail
      go_roundw
      case rel => exact ⟨k + 1, by omega, by go_num, HRq.out⟩
      case measure => simp [intOf]; omega
    · go_wp2_with fail
      go_ret
      exact ⟨rfl, HR.out⟩
end Go.Proofs.Ytkknfhabfmpogaa
