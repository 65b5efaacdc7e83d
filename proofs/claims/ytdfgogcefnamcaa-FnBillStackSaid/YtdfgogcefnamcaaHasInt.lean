/- Contracts: hasInt. -/
import Derived.Test.YtdfgogcefnamcaaOwn
set_option linter.unusedVariables false
namespace Go.Proofs.Ytdfgogcefnamcaa
open Go.RowKit

theorem mem_take_next' {xs : List Int} {k : Nat} {x n : Int} (h : xs[k]? = some x) (hn : n ∉ xs.take k) (hx : ¬ x = n) : n ∉ xs.take (k + 1) := by
  rw [take_next h, List.mem_append, List.mem_singleton]
  rintro (h | h)
  · exact hn h
  · exact hx h.symm
set_option maxRecDepth 20000 in
set_option maxHeartbeats 800000 in
theorem hasInt_any (A : Option Addr) (len cap : Nat) (xs : List Int) (n : Int) (w : World) (h : SlE 1 encI w A len xs) (hn : len ≤ 16777216) :
    Calls Try.prog 42 #[.slice A len cap, .int .i64 n] w (SameB (n ∈ xs) w) := by
  have H := Lib.hid h
  have HL := Lib.hid h.len
  clear h
  go_enter Try.func42, Try.ntmps42
  go_wp2
  go_loop [5] (fun i => ∃ k : Nat, k ≤ len ∧ i = .int .i64 k ∧ n ∉ xs.take k) (fun i => len - (intOf i).toNat)
  case atStart => exact ⟨0, by omega, rfl, by simp⟩
  case round =>
    obtain ⟨k, hk, rfl, hno⟩ := hrel
    have HNO := Lib.hid hno
    clear hno
    by_cases hlt : k < len
    · obtain ⟨b, off, x, rfl, hbl, hx, hd, h0⟩ := at1 H.out (Below.refl _ w) hlt
      have HX := Lib.hid hx
      clear hx hd
      by_cases he : x = n
      · subst he
        go_wp2
        go_ret
        exact ⟨true, rfl, by simp [mem_at HX.out], rfl⟩
      · have h3' : (x == n) = false := by simpa using he
        have HE := Lib.hid he
        clear he
        go_wp2
        go_round
        case rel => exact ⟨k + 1, by omega, by go_num, mem_take_next' HX.out HNO.out HE.out⟩
        case measure => simp [intOf]; omega
    · have hx : xs.take k = xs := List.take_of_length_le (by have := HL.out; omega)
      rw [hx] at HNO
      go_wp2
      go_ret
      exact ⟨false, rfl, by simp [HNO.out], rfl⟩
end Go.Proofs.Ytdfgogcefnamcaa
