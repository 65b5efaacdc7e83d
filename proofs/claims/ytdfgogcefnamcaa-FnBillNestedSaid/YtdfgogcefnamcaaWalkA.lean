/- Contracts of small functions and of what checks a way-bill. -/
import Derived.Test.YtdfgogcefnamcaaBase
set_option linter.unusedVariables false
namespace Go.Proofs.Ytdfgogcefnamcaa
open Go.RowKit

set_option maxHeartbeats 400000 in
theorem l6In_any (n lo hi : Int) (w : World) :
    Calls Try.prog 68 #[.int .i64 n, .int .i64 lo, .int .i64 hi] w (SameB (lo ≤ n ∧ n ≤ hi) w) := by
  go_enter Try.func68, Try.ntmps68
  go_wp2
  all_goals
    go_ret
    exact ⟨_, rfl, by simp <;> omega, rfl⟩

set_option maxHeartbeats 400000 in
theorem stopsOrdered_any (n f t : Int) (w : World) :
    Calls Try.prog 66 #[.int .i64 n, .int .i64 f, .int .i64 t] w (SameB (0 ≤ f ∧ f < t ∧ t ≤ n) w) := by
  go_enter Try.func66, Try.ntmps66
  go_wp2
  all_goals
    go_ret
    exact ⟨_, rfl, by simp <;> omega, rfl⟩

set_option maxHeartbeats 400000 in
theorem legsValid_any (n : Int) (w : World) :
    Calls Try.prog 65 #[.int .i64 n] w (SameB (1 ≤ n ∧ n ≤ 7) w) := by
  go_enter Try.func65, Try.ntmps65
  go_wp2
  all_goals
    go_ret
    exact ⟨_, rfl, by simp <;> omega, rfl⟩

set_option maxHeartbeats 400000 in
theorem l9Load_any (A : Option Addr) (n cap : Nat) (leg : Int) (xs : List T3) (w : World) (h : SlE 3 enc3 w A n xs) (hn : n ≤ 16777216) (hw : ∀ p ∈ xs, 0 ≤ p.c ∧ p.c ≤ 99) :
    Calls Try.prog 69 #[.slice A n cap, .int .i64 leg] w (Same (.int .i64 (load xs leg)) w) := by
  go_enter Try.func69, Try.ntmps69
  have H := Lib.hid h
  have HW := Lib.hid hw
  clear h hw
  go_wp2
  go_loop [5, 6] (fun s i => ∃ k : Nat, k ≤ n ∧ i = .int .i64 k ∧ s = .int .i64 (load (xs.take k) leg)) (fun _ i => n - (intOf i).toNat)
  case atStart => exact ⟨0, by omega, rfl, rfl⟩
  case round =>
    obtain ⟨k, hk, rfl, rfl⟩ := hrel
    have hb := load_bd (xs.take k) leg (fun p hp => HW.out p (mem_take_of hp))
    have hl : (xs.take k).length ≤ k := List.length_take_le _ _
    by_cases hlt : k < n
    · obtain ⟨b, off, x, y, z, rfl, hbl, hx, hd, h0, h1, h2⟩ := at3 H.out (Below.refl _ w) hlt
      have hz := HW.out _ (mem_at hx)
      have HX := Lib.hid (load_next leg hx)
      clear hd hx
      simp only at hz
      generalize load (xs.take k) leg = t at *
      go_wp2
      all_goals
        go_round
        case rel => exact ⟨k + 1, by omega, by go_num, by rw [HX.out]; simp only; first | rw [if_pos ⟨‹_›, ‹_›⟩] | (rw [if_neg (by omega)]; go_num)⟩
        case measure => simp [intOf]; omega
    · have hx : xs.take k = xs := List.take_of_length_le (by have := H.out.len; omega)
      rw [hx]
      go_wp2
      go_ret
      exact ⟨rfl, rfl⟩
end Go.Proofs.Ytdfgogcefnamcaa
