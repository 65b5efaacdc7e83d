/- Contracts: takenOn and BookingsValid of both. -/
import Derived.Test.YtgjllminidlolaaGreatDoorSWalkA
import Derived.Handy
set_option linter.unusedVariables false
namespace Go.Proofs.YtgjllminidlolaaGreatDoor
open Go.RowKit

set_option maxRecDepth 20000 in
set_option maxHeartbeats 3200000 in
theorem takenOn_any (A : Option Addr) (n cap : Nat) (leg : Nat) (k : Bool) (xs : List B3) (w : World) (h : SlE 3 encB w A n xs) (hn : n ≤ 16777216) (hk : ∀ p ∈ xs, OkB 7 p) (hl7 : leg < 7) :
    Calls Tryz.prog 80 #[.slice A n cap, .int .i64 leg, .bool k] w (Only (.int .i64 (taken xs leg k)) w) := by
  have H := Lib.hid h
  have HK := Lib.hid hk
  clear h hk
  go_enter Tryz.func80, Tryz.ntmps80
  go_wp2_with fail
  go_loopw [7, 12, 9] (fun s i _ wr => ∃ j : Nat, j ≤ n ∧ i = .int .i64 j ∧ s = .int .i64 (taken (xs.take j) leg k) ∧ Below w.heap.size w wr) (fun _ i _ _ => n - (intOf i).toNat)
  case atStart => exact ⟨0, by omega, rfl, rfl, Below.refl _ _⟩
  case round =>
    obtain ⟨j, hj, rfl, rfl, hbr⟩ := hrel
    have HR := Lib.hid hbr
    clear hbr
    have hb := taken_bd (xs.take j) leg k
    have hl : (xs.take j).length ≤ j := List.length_take_le _ _
    obtain ⟨b0, b1⟩ := hb
    by_cases hlt : j < n
    · obtain ⟨b, off, x, y, z, rfl, hbl, hx, hd, g0, g1, g2⟩ := atB H.out HR.out hlt
      have HX := Lib.hid (taken_next (leg : Int) k hx)
      have hok := HK.out _ (mem_at hx)
      unfold OkB at hok
      dsimp only at hok
      obtain ⟨x, rfl⟩ : ∃ i : Nat, x = i := ⟨x.toNat, by omega⟩
      obtain ⟨y, rfl⟩ : ∃ i : Nat, y = i := ⟨y.toNat, by omega⟩
      have hxy : x ≤ y := by omega
      have hy7 : y ≤ 7 := by omega
      have HBX := Lib.hid (below_alloc HR.out (.cells #[.int .i64 (x : Int), .int .i64 (y : Int), .bool z] 34))
      clear hd hx hok
      generalize taken (xs.take j) leg k = t at *
      by_cases hk : z = k
      · subst hk
        go_wp2_with fail
        refine (ticketOf_any x y z _ hxy hy7).mono ?_
        rintro e w2 ⟨rfl, hb2⟩
        have HB2 := Lib.hid (below_trans HBX.out hb2)
        clear hb2
        cases z
        all_goals
          simp only [tick, Bool.false_eq_true, if_true, if_false]
          go_wp2_with fail
          first
            | refine (inLegs_any _ _).mono ?_
            | refine (outLegs_any _ _).mono ?_
            | fail
          rintro e w3 ⟨rfl, hb3⟩
          have HB3 := Lib.hid (below_trans HB2.out hb3)
          clear hb3
          go_wp2_with fail
          refine (has_any _ _ leg _ (by omega) (by omega) (by omega)).mono ?_
          intro e w4 hp
          by_cases hin : x ≤ leg ∧ leg < y
          · obtain ⟨rfl, rfl⟩ := hp.yes hin
            have HI := Lib.hid hin
            clear hin hp
            go_wp2_with fail
            go_roundw
            case rel => exact ⟨j + 1, by omega, by go_num, by rw [HX.out, if_pos ⟨by trivial, Int.ofNat_le.2 HI.out.1, Int.ofNat_lt.2 HI.out.2⟩], HB3.out⟩
            case measure => simp [intOf]; omega
          · obtain ⟨rfl, rfl⟩ := hp.no hin
            have HI := Lib.hid hin
            clear hin hp
            go_wp2_with fail
            go_roundw
            case rel => exact ⟨j + 1, by omega, by go_num, by rw [HX.out, if_neg (fun h => HI.out ⟨Int.ofNat_le.1 h.2.1, Int.ofNat_lt.1 h.2.2⟩), Int.add_zero], HB3.out⟩
            case measure => simp [intOf]; omega
      · have d0 : (z == k) = false := by simpa using hk
        go_wp2_with fail
        go_roundw
        case rel => exact ⟨j + 1, by omega, by go_num, by rw [HX.out]; dsimp only; rw [if_neg (fun h => hk h.1), Int.add_zero], HBX.out⟩
        case measure => simp [intOf]; omega
    · have hx : xs.take j = xs := List.take_of_length_le (by have := H.out.len; omega)
      rw [hx]
      clear hx
      go_wp2_with fail
      go_ret
      exact ⟨rfl, HR.out⟩
end Go.Proofs.YtgjllminidlolaaGreatDoor
