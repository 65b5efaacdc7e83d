/- Contracts: BookingsValid of the program. -/
import Derived.Test.YtgjllminidlolaaGreatDoorSWalkB
set_option linter.unusedVariables false
namespace Go.Proofs.YtgjllminidlolaaGreatDoor
open Go.RowKit

theorem okB_w {n : Int} {xs : List B3} (hn : n ≤ 7) (h : ∀ p ∈ xs, OkB n p) : ∀ p ∈ xs, OkB 7 p := by
  intro p hp
  have := h p hp
  unfold OkB at *
  omega
set_option maxRecDepth 20000 in
set_option maxHeartbeats 3200000 in
theorem implBookingsValid_any (A : Option Addr) (n : Int) (len cap : Nat) (xs : List B3) (w : World) (h : SlE 3 encB w A len xs) (hn : len ≤ 16777216) :
    Calls Tryz.prog 43 #[.int .i64 n, .slice A len cap] w (OnlyB (BookOk n xs) w) := by
  have H := Lib.hid h
  have hxl := h.len
  have HL := Lib.hid hxl
  clear h hxl
  by_cases hr : 1 ≤ n ∧ n ≤ 7
  · obtain ⟨hr1, hr2⟩ := hr
    by_cases hm : len ≤ 16
    · have hm' : (len : Int) ≤ 16 := by omega
      go_enter Tryz.func43, Tryz.ntmps43
      go_wp2_with (go_at_call 78; refine (legsValid_any _ _).mono ?_; intro e w2 hp; obtain ⟨rfl, rfl⟩ := hp.yes ⟨hr1, hr2⟩)
      go_loopw [18, 6] (fun i _ wr => ∃ k : Nat, k ≤ len ∧ i = .int .i64 k ∧ (∀ p ∈ xs.take k, OkB n p) ∧ Below w.heap.size w wr) (fun i _ _ => len - (intOf i).toNat)
      case atStart => exact ⟨0, by omega, rfl, by simp, Below.refl _ _⟩
      case round =>
        obtain ⟨k, hk, rfl, hall, hbr⟩ := hrel
        have HR := Lib.hid hbr
        have HA := Lib.hid hall
        clear hbr hall
        by_cases hlt : k < len
        · obtain ⟨b, off, x, y, z, rfl, hbl, hx, hd, h0, h1, h2⟩ := atB H.out HR.out hlt
          have HX := Lib.hid hx
          clear hd hx
          go_wp2_with (go_at_call 79; refine (stopsOrdered_any _ _ _ _).mono ?_; intro e w2 hp; rcases hp.cases with ⟨rfl, hp, rfl⟩ | ⟨rfl, hp, rfl⟩)
          all_goals first
            | (go_ret; exact onlyB_false (book_not HX.out (by unfold OkB; dsimp only; omega)) (below_alloc HR.out _))
            | (go_roundw
               case rel => exact ⟨k + 1, by omega, by go_num, allB_next HX.out HA.out (by unfold OkB; dsimp only; omega), below_alloc HR.out _⟩
               case measure => simp [intOf]; omega)
            | fail
        · have hx : xs.take k = xs := List.take_of_length_le (by have := HL.out; omega)
          rw [hx] at HA
          clear hx
          go_wp2
          go_loopw [31, 7] (fun l _ wl => ∃ j : Nat, (j : Int) ≤ n ∧ l = .int .i64 j ∧ (∀ i : Nat, i < j → taken xs i true ≤ 4 ∧ taken xs i false ≤ 6) ∧ Below w.heap.size w wl) (fun l _ _ => (n - intOf l).toNat)
          case atStart => exact ⟨0, by omega, rfl, fun i hi => absurd hi (by omega), HR.out⟩
          case round =>
            obtain ⟨j, hj, rfl, hleg, hbl⟩ := hrel
            have HJ := Lib.hid hleg
            have HM := Lib.hid hbl
            clear hleg hbl
            by_cases hjn : (j : Int) < n
            · have hb1 := taken_bd xs j true
              have hb2 := taken_bd xs j false
              have hxl := HL.out
              have HW := Lib.hid (okB_w hr2 HA.out)
              by_cases h4 : taken xs j true ≤ 4
              · by_cases h6 : taken xs j false ≤ 6
                · have HQ := Lib.hid (And.intro h4 h6)
                  generalize hT : taken xs j true = T4 at *
                  generalize hU : taken xs j false = T6 at *
                  go_wp2_with fail
                  refine (takenOn_any _ _ _ j true _ _ (H.out.below HM.out) hn HW.out (by omega)).mono ?_
                  rintro e w2 ⟨rfl, hc2⟩
                  rw [hT]
                  have HN := Lib.hid (below_trans HM.out hc2)
                  clear hc2
                  go_wp2_with fail
                  refine (takenOn_any _ _ _ j false _ _ (H.out.below HN.out) hn HW.out (by omega)).mono ?_
                  rintro e w3 ⟨rfl, hc3⟩
                  rw [hU]
                  have HO := Lib.hid (below_trans HN.out hc3)
                  clear hc3
                  go_wp2_with fail
                  go_roundw
                  case rel => exact ⟨j + 1, by omega, by go_num, fun i hi => if h : i = j then by rw [h, hT, hU]; exact HQ.out else HJ.out i (by omega), HO.out⟩
                  case measure => simp [intOf]; omega
                · have HQ := Lib.hid (book_leg (n := n) (xs := xs) hjn (fun h => h6 h.2))
                  generalize hT : taken xs j true = T4 at *
                  generalize hU : taken xs j false = T6 at *
                  go_wp2_with fail
                  refine (takenOn_any _ _ _ j true _ _ (H.out.below HM.out) hn HW.out (by omega)).mono ?_
                  rintro e w2 ⟨rfl, hc2⟩
                  rw [hT]
                  have HN := Lib.hid (below_trans HM.out hc2)
                  clear hc2
                  go_wp2_with fail
                  refine (takenOn_any _ _ _ j false _ _ (H.out.below HN.out) hn HW.out (by omega)).mono ?_
                  rintro e w3 ⟨rfl, hc3⟩
                  rw [hU]
                  have HO := Lib.hid (below_trans HN.out hc3)
                  clear hc3
                  go_wp2_with fail
                  go_ret
                  exact onlyB_false HQ.out HO.out
              · have HQ := Lib.hid (book_leg (n := n) (xs := xs) hjn (fun h => h4 h.1))
                generalize hT : taken xs j true = T4 at *
                clear hb2
                go_wp2_with fail
                refine (takenOn_any _ _ _ j true _ _ (H.out.below HM.out) hn HW.out (by omega)).mono ?_
                rintro e w2 ⟨rfl, hc2⟩
                rw [hT]
                have HN := Lib.hid (below_trans HM.out hc2)
                clear hc2
                go_wp2_with fail
                go_ret
                exact onlyB_false HQ.out HN.out
            · go_wp2
              go_ret
              exact onlyB_true ⟨hr1, hr2, by rw [HL.out]; exact hm, HA.out, fun i hi => HJ.out i (by omega)⟩ HM.out
    · have hm' : 16 < (len : Int) := by omega
      go_enter Tryz.func43, Tryz.ntmps43
      go_wp2_with (go_at_call 78; refine (legsValid_any _ _).mono ?_; intro e w2 hp; obtain ⟨rfl, rfl⟩ := hp.yes ⟨hr1, hr2⟩)
      go_ret
      exact onlyB_false (fun hB => hm (by have := hB.2.2.1; rw [HL.out] at this; exact this)) (Below.refl _ _)
  · go_enter Tryz.func43, Tryz.ntmps43
    go_wp2_with (go_at_call 78; refine (legsValid_any _ _).mono ?_; intro e w2 hp; obtain ⟨rfl, rfl⟩ := hp.no hr)
    go_ret
    exact onlyB_false (fun hB => hr ⟨hB.1, hB.2.1⟩) (Below.refl _ _)
end Go.Proofs.YtgjllminidlolaaGreatDoor
