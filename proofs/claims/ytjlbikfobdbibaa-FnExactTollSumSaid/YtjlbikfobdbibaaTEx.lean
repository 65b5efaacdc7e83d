/- The laws' copy of a slice of ints. -/
import Derived.Test.YtjlbikfobdbibaaGEx
set_option linter.unusedVariables false
namespace Go.Proofs.Ytjlbikfobdbibaa
open Go.RowKit

theorem info_intN : (Try.prog.info? 3).map (fun i => (i.zero, i.size, i.bytes)) = some (some (.int .i64 0), 1, 8) := by kernel_rfl
theorem made1 (n : Nat) : (madeCells #[.int .i64 0] n).toList = (List.replicate n (0 : Int)).flatMap encI := by
  apply List.ext_getElem?
  intro j
  by_cases hj : j < n
  · have h3 := flat_at encI_len (List.replicate n (0 : Int)) j 0 (by rw [List.getElem?_replicate, if_pos hj]) 0 (.int .i64 0) rfl
    rw [Nat.mul_one, Nat.add_zero] at h3
    rw [h3]
    have h4 : (madeCells #[.int .i64 0] n)[j]? = some (.int .i64 0) := by simp [madeCells, hj, Nat.mod_one]
    simpa using h4
  · have h1 : (madeCells #[.int .i64 0] n).toList.length = n := by simp [madeCells]
    rw [List.getElem?_eq_none (by rw [h1]; omega), List.getElem?_eq_none (by rw [flat_len encI_len, List.length_replicate]; omega)]
set_option maxRecDepth 20000 in
set_option maxHeartbeats 800000 in
theorem toIntS_any (A : Option Addr) (n cap : Nat) (xs : List Int) (w : World) (h : SlE 1 encI w A n xs) (hn : n ≤ 16777216) :
    Calls Try.prog 31 #[.slice A n cap] w (RetOwn 1 encI 3 xs w) := by
  have H := Lib.hid h
  clear h
  have hmk := fun W => run_make_rowN (P := Try.prog) 24 3 (.int .i64 0) 1 8 Try.underlying24 info_intN .i64 .i64 n (by omega) (by omega) W
  go_enter Try.func31, Try.ntmps31
  go_wp2
  go_loopw [4] (fun i wr => ∃ k : Nat, k ≤ n ∧ i = .int .i64 k ∧ OwnE 1 encI 3 w.heap.size wr (.slice (some ⟨w.heap.size, 0, none⟩) n n) (xs.take k ++ List.replicate (xs.length - k) 0) ∧ Below w.heap.size w wr) (fun i _ => n - (intOf i).toNat)
  case atStart => exact ⟨0, by omega, rfl, own_new w _ _ (Nat.le_refl _) encI_len _ _ (by rw [made1]; simp [H.out.len]) (by simp [H.out.len, maxLen]; omega) (by simp [H.out.len]), below_alloc (Below.refl _ _) _⟩
  case round =>
    obtain ⟨k, hk, rfl, hown, hbr⟩ := hrel
    have HR := Lib.hid hbr
    have HO := Lib.hid hown
    by_cases hlt : k < n
    · obtain ⟨b, off, x, rfl, hbl, hx, hd, h0⟩ := at1 H.out HR.out hlt
      have HX := Lib.hid hx
      have hkl : k < xs.length := by have := H.out.len; omega
      have c0 := hown.cell1 (fill_at _ hkl)
      have f0 := hown.frozen
      clear hx hd hbr hown hmk
      go_wp2
      go_roundw
      case rel =>
        have hf := own1_set HO.out (by rw [fill_len _ (Nat.le_of_lt hkl), H.out.len]) k x
        rw [fill_step _ HX.out] at hf
        exact ⟨k + 1, by omega, by go_num, hf.1, HR.out.grown hf.2 HR.out.size (fun j hj => by injection hj with hj; omega)⟩
      case measure => simp [intOf]; omega
    · have hx : xs.take k = xs := List.take_of_length_le (by have := H.out.len; omega)
      have hz : xs.length - k = 0 := by have := H.out.len; omega
      rw [hx, hz, List.replicate_zero, List.append_nil] at HO
      clear hx hz hbr hown hmk
      go_wp2
      go_ret
      exact ⟨_, rfl, HO.out, HR.out⟩
end Go.Proofs.Ytjlbikfobdbibaa
