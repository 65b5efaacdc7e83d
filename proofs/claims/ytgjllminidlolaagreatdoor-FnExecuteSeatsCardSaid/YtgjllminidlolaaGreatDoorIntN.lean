/- Small facts on a slice of ints that a call makes. -/
import Derived.Test.YtgjllminidlolaaGreatDoorOwn
set_option linter.unusedVariables false
namespace Go.Proofs.YtgjllminidlolaaGreatDoor
open Go.RowKit
theorem info_intN : (Tryz.prog.info? 3).map (fun i => (i.zero, i.size, i.bytes)) = some (some (.int .i64 0), 1, 8) := by kernel_rfl
theorem made1 (n : Nat) : (madeCells #[.int .i64 0] n).toList = (List.replicate n (0 : Int)).flatMap encI := by
  apply List.ext_getElem?
  intro j
  by_cases hj : j < n
  · have h3 := flat_at encI_len (List.replicate n (0 : Int)) j 0 (by rw [List.getElem?_replicate, if_pos hj]) 0 (.int .i64 0) rfl
    rw [Nat.mul_one, Nat.add_zero] at h3
    rw [h3]
    have h4 : (madeCells #[.int .i64 0] n)[j]? = some (.int .i64 0) := by simp [madeCells, hj, Nat.mod_one]
    simpa using h4
  · have h1 : (madeCells #[.int .i64 0] n).toList.length = n := by simp [madeCells]
    rw [List.getElem?_eq_none (by rw [h1]; omega), List.getElem?_eq_none (by rw [flat_len encI_len, List.length_replicate]; omega)]
end Go.Proofs.YtgjllminidlolaaGreatDoor
