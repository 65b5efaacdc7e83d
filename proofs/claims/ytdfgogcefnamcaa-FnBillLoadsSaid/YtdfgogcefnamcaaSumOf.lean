/- Contracts: sumOf at a small list of numbers. -/
import Derived.Test.YtdfgogcefnamcaaOwn
set_option linter.unusedVariables false
namespace Go.Proofs.Ytdfgogcefnamcaa
open Go.RowKit

theorem sum_next {xs : List Int} {k : Nat} {x : Int} (h : xs[k]? = some x) : (xs.take (k + 1)).sum = (xs.take k).sum + x := by
  rw [take_next h, List.sum_append]; simp
theorem sum_bd {B : Int} : ∀ xs : List Int, (∀ x ∈ xs, 0 ≤ x ∧ x ≤ B) → 0 ≤ xs.sum ∧ xs.sum ≤ B * xs.length
  | [], _ => by simp
  | x :: xs, h => by
    have h1 := sum_bd xs fun y hy => h y (List.mem_cons_of_mem _ hy)
    have h2 := h x (List.mem_cons_self ..)
    rw [List.sum_cons, List.length_cons]
    have e : B * ((xs.length + 1 : Nat) : Int) = B * (xs.length : Int) + B := by
      rw [Int.natCast_add, Int.mul_add]; simp
    omega
set_option maxRecDepth 20000 in
set_option maxHeartbeats 1600000 in
theorem sumOf_any (A : Option Addr) (len c : Nat) (xs : List Int) (w : World) (hA : SlE 1 encI w A len xs) (hn : len ≤ 1000) (hb : ∀ x ∈ xs, 0 ≤ x ∧ x ≤ 10000) :
    Calls Try.prog 27 #[.slice A len c] w (Same (.int .i64 xs.sum) w) := by
  have H := Lib.hid hA
  have HB := Lib.hid hb
  have HXL := Lib.hid hA.len
  clear hA hb
  go_enter Try.func27, Try.ntmps27
  go_wp2_with fail
  go_loop [4, 3] (fun i s => ∃ k : Nat, k ≤ len ∧ i = .int .i64 k ∧ s = .int .i64 (xs.take k).sum) (fun i _ => len - (intOf i).toNat)
  case atStart => exact ⟨0, by omega, rfl, rfl⟩
  case round =>
    obtain ⟨k, hk, rfl, rfl⟩ := hrel
    by_cases hlt : k < len
    · obtain ⟨b1, o1, x, rfl, hl1, hx1, hd1, g0⟩ := at1 H.out (Below.refl _ w) hlt
      have hs := sum_bd (B := 10000) (xs.take k) (fun y hy => HB.out y (List.mem_of_mem_take hy))
      have hx := HB.out x (mem_at hx1)
      have hl : (xs.take k).length ≤ k := List.length_take_le _ _
      have HN := Lib.hid (sum_next hx1)
      obtain ⟨s0, s1⟩ := hs
      clear hx1 hd1
      go_wp2_with fail
      go_round
      case rel => exact ⟨k + 1, by omega, by go_num, by rw [HN.out]⟩
      case measure => simp [intOf]; omega
    · have e : k = len := by omega
      subst e
      have HT := Lib.hid (show xs.take k = xs by rw [List.take_of_length_le (by rw [HXL.out]; omega)])
      go_wp2_with fail
      go_ret
      exact ⟨by rw [HT.out]; rfl, rfl⟩
end Go.Proofs.Ytdfgogcefnamcaa
