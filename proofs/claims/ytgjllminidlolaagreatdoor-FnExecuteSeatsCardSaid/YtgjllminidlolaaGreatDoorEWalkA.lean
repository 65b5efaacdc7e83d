/- Contracts: the number of a word. -/
import Derived.Test.YtgjllminidlolaaGreatDoorPlains
import Derived.Test.YtgjllminidlolaaGreatDoorOwn
import Derived.Lib.ConvBytes
set_option linter.unusedVariables false
namespace Go.Proofs.YtgjllminidlolaaGreatDoor
open Go.RowKit

theorem numD_bd : ∀ (l : List UInt8) (a : Int), l.all isDig = true → 0 ≤ a → 0 ≤ numD l a ∧ numD l a ≤ (a + 1) * 10 ^ l.length - 1
  | [], a, _, h => by simp [numD]; omega
  | c :: l, a, h, h0 => by
    simp only [List.all_cons, Bool.and_eq_true] at h
    have hc : 48 ≤ c.toNat ∧ c.toNat ≤ 57 := by
      have := h.1
      simp only [isDig, Bool.and_eq_true, decide_eq_true_eq, UInt8.le_iff_toNat_le] at this
      exact this
    have ih := numD_bd l (a * 10 + ((c.toNat : Int) - 48)) h.2 (by omega)
    refine ⟨ih.1, Int.le_trans ih.2 ?_⟩
    rw [List.length_cons, Int.pow_succ]
    have h1 : (a * 10 + ((c.toNat : Int) - 48) + 1) * 10 ^ l.length ≤ (a * 10 + 10) * 10 ^ l.length := Int.mul_le_mul_of_nonneg_right (by omega) (Int.pow_nonneg (by omega))
    have h2 : (a * 10 + 10) * (10 : Int) ^ l.length = (a + 1) * (10 ^ l.length * 10) := by
      rw [show a * 10 + 10 = (a + 1) * 10 by omega, Int.mul_assoc, Int.mul_comm 10]
    omega
theorem below_bytes (w : World) (e : TypeId) (s : ByteArray) : Below w.heap.size w (Lib.bytesWorld w e s) :=
  ⟨rfl, rfl, rfl, by rw [Lib.bytesWorld_size]; omega, fun j hj => Lib.bytesWorld_at_old w e s j hj⟩
theorem take_at_next (l : List UInt8) (j : Nat) (c : UInt8) (h : l[j]? = some c) : l.take (j + 1) = l.take j ++ [c] := take_next h

set_option maxRecDepth 20000 in
set_option maxHeartbeats 1600000 in
theorem numberOf_any (s : ByteArray) (w : World) :
    Calls Tryz.prog 104 #[.string s] w (Only (.int .i64 (numL s.data.toList)) w) := by
  have hsz : s.size = s.data.toList.length := by simp
  by_cases hlen : 1 ≤ s.size ∧ s.size ≤ 5
  rotate_left
  · have HN := Lib.hid (show numL s.data.toList = 99999 by rw [numL, if_neg (fun h => hlen (by rw [hsz]; exact ⟨h.1, h.2.1⟩))])
    by_cases h1 : s.size < 1
    · have i1 : (s.size : Int) < 1 := by omega
      clear hlen hsz
      go_enter Tryz.func104, Tryz.ntmps104
      go_wp2_with fail
      go_ret
      exact ⟨by rw [HN.out]; rfl, Below.refl _ _⟩
    · have i1 : ¬ (s.size : Int) < 1 := by omega
      have i2 : 5 < (s.size : Int) := by omega
      clear hlen hsz h1
      go_enter Tryz.func104, Tryz.ntmps104
      go_wp2_with fail
      go_ret
      exact ⟨by rw [HN.out]; rfl, Below.refl _ _⟩
  obtain ⟨h1, h5⟩ := hlen
  have HSZ := Lib.hid hsz
  have hcv := fun W => Lib.run_convert_string_bytes (P := Tryz.prog) W 9 22 5 s Tryz.underlying9 Tryz.underlying22 Tryz.underlying5
  have HB := Lib.hid (below_bytes w 5 s)
  have HC := Lib.hid (fun j hj => Lib.bytesWorld_cell w 5 s j hj)
  clear hsz
  go_enter Tryz.func104, Tryz.ntmps104
  go_wp2_with fail
  generalize Lib.bytesWorld w 5 s = wb at *
  go_loop [3, 17, 5] (fun v i _ => ∃ j : Nat, j ≤ s.size ∧ i = .int .i64 j ∧ v = .int .i64 (numD (s.data.toList.take j) 0) ∧ (s.data.toList.take j).all isDig = true) (fun _ i _ => s.size - (intOf i).toNat)
  case atStart => exact ⟨0, by omega, rfl, rfl, rfl⟩
  case round =>
    obtain ⟨j, hj, rfl, rfl, hall⟩ := hrel
    have hbd := numD_bd _ 0 hall (by omega)
    have htl : (s.data.toList.take j).length ≤ j := List.length_take_le _ _
    have HA := Lib.hid hall
    clear hall
    by_cases hjs : j < s.size
    rotate_left
    · have e : j = s.size := by omega
      have HT := Lib.hid (show s.data.toList.take j = s.data.toList from List.take_of_length_le (by rw [← HSZ.out]; omega))
      have HV := Lib.hid (show numL s.data.toList = numD (s.data.toList.take j) 0 by
        rw [numL, if_pos ⟨by rw [← HSZ.out]; exact h1, by rw [← HSZ.out]; exact h5, by rw [← HT.out]; exact HA.out⟩, HT.out])
      clear e hbd htl
      generalize numD (s.data.toList.take j) 0 = nv at *
      go_wp2_with fail
      go_ret
      exact ⟨by rw [HV.out]; rfl, HB.out⟩
    have hp5 : (10 : Int) ^ (s.data.toList.take j).length ≤ 10000 := by
      have h : (s.data.toList.take j).length ≤ 4 := by omega
      rcases (by omega : (s.data.toList.take j).length = 0 ∨ (s.data.toList.take j).length = 1 ∨ (s.data.toList.take j).length = 2 ∨ (s.data.toList.take j).length = 3 ∨ (s.data.toList.take j).length = 4) with e | e | e | e | e <;> rw [e] <;> decide
    obtain ⟨n0, n1⟩ := hbd
    obtain ⟨c, hc⟩ : ∃ c, s.data.toList[j]? = some c := ⟨_, List.getElem?_eq_getElem (by rw [← HSZ.out]; exact hjs)⟩
    have hcell := HC.out j hjs
    rw [List.getD_eq_getElem?_getD, hc] at hcell
    simp only [Option.getD_some] at hcell
    have HX := Lib.hid hc
    have hcl := c.toNat_lt
    have n2 : numD (s.data.toList.take j) 0 ≤ 10000 := by omega
    have HN := Lib.hid (show numD (s.data.toList.take (j + 1)) 0 = numD (s.data.toList.take j) 0 * 10 + ((c.toNat : Int) - 48) by rw [take_at_next _ _ _ hc, numD_append]; rfl)
    have HD := Lib.hid (show (s.data.toList.take (j + 1)).all isDig = isDig c by rw [take_at_next _ _ _ hc, List.all_append, HA.out]; simp)
    have HF := Lib.hid (show isDig c = false → numL s.data.toList = 99999 from fun hd => by
      rw [numL, if_neg (fun h => by
        have := List.all_eq_true.1 h.2.2 c (List.mem_of_getElem? hc)
        rw [hd] at this
        cases this)])
    have HDG := Lib.hid (show isDig c = true ↔ 48 ≤ c.toNat ∧ c.toNat ≤ 57 by simp [isDig, UInt8.le_iff_toNat_le])
    clear hc hp5 htl n1
    generalize numD (s.data.toList.take j) 0 = nv at *
    generalize hcn : c.toNat = cn at *
    have i0 : (0 : Int) ≤ (cn : Int) := by omega
    have i1 : (cn : Int) ≤ 255 := by omega
    have i2 : (0 : Int) ≤ (j : Int) := by omega
    clear hcl hcn
    by_cases hd : 48 ≤ cn ∧ cn ≤ 57
    · obtain ⟨d0, d1⟩ := hd
      have d2 : (48 : Int) ≤ (cn : Int) := by omega
      have d3 : (cn : Int) ≤ 57 := by omega
      go_wp2_with fail
      go_round
      case rel => exact ⟨j + 1, by omega, by go_num, by rw [HN.out], by rw [HD.out]; exact HDG.out.2 ⟨d0, d1⟩⟩
      case measure => simp [intOf]; omega
    · have HV := Lib.hid (HF.out (by cases hx : isDig c with | false => rfl | true => exact absurd (HDG.out.1 hx) hd))
      rcases (by omega : cn < 48 ∨ 57 < cn) with e | e
      all_goals
        have e' := e
        clear hd e
        go_wp2_with fail
        go_ret
        exact ⟨by rw [HV.out]; rfl, HB.out⟩
end Go.Proofs.YtgjllminidlolaaGreatDoor
