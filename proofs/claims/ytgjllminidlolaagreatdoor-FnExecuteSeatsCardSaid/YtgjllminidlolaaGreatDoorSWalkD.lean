/- Contracts: BookingsValid of the reference. -/
import Derived.Test.YtgjllminidlolaaGreatDoorSWalkC
import Derived.Deep.QuietTactic
import Derived.BigQuiet
import Derived.Deep.Cut
import Derived.Deep.RegionHeld3
import Derived.Deep.DrawnRows
set_option linter.unusedVariables false
namespace Go.Proofs.YtgjllminidlolaaGreatDoor
open Go.RowKit

theorem bl_drewN {B : Nat} {a b : World} (h : Below B a b) (n : Nat) : Below B a (b.drewN n) := ⟨h.os, h.tape, h.output, h.size, h.block⟩
theorem l6In_qf (n lo hi : Int) (w : World) (d : Nat) (h : ¬ (lo ≤ n ∧ n ≤ hi)) :
    Calls Tryz.prog 62 #[.int .i64 n, .int .i64 lo, .int .i64 hi] (w.drewN d) (fun e w'' => e = .returned (.bool false) ∧ ∃ m, w'' = w.drewN m) :=
  Calls.quiet_of_same ((l6In_any n lo hi _).mono fun e w' hp => ⟨(hp.no h).1, (hp.no h).2.symm⟩)
set_option maxRecDepth 20000 in
set_option maxHeartbeats 3200000 in
theorem specBookingsValid_any (A : Option Addr) (n : Int) (len cap : Nat) (xs : List B3) (w : World) (h : SlE 3 encB w A len xs) (hn : len ≤ 16777216) :
    Calls Tryz.prog 48 #[.int .i64 n, .slice A len cap] w (OnlyB (BookOk n xs) w) := by
  have H := Lib.hid h
  have hxl := h.len
  have HL := Lib.hid hxl
  clear h hxl
  by_cases hr : 1 ≤ n ∧ n ≤ 7
  · obtain ⟨hr1, hr2⟩ := hr
    by_cases hm : len ≤ 16
    · have hm' : (len : Int) ≤ 16 := by omega
      go_enter Tryz.func48, Tryz.ntmps48
      go_wp2_with (go_at_call 62; refine (l6In_any _ _ _ _).mono ?_; intro e w2 hp; obtain ⟨rfl, rfl⟩ := hp.yes ⟨hr1, hr2⟩)
      go_loopw [5] (fun i wr => ∃ k : Nat, k ≤ len ∧ i = .int .i64 k ∧ (∀ p ∈ xs.take k, OkB n p) ∧ Below w.heap.size w wr) (fun i _ => len - (intOf i).toNat)
      case atStart => exact ⟨0, by omega, rfl, by simp, Below.refl _ _⟩
      case round =>
        obtain ⟨k, hk, rfl, hall, hbr⟩ := hrel
        have HR := Lib.hid hbr
        have HA := Lib.hid hall
        clear hbr hall
        by_cases hlt : k < len
        · obtain ⟨b, off, x, y, z, rfl, hbl, hx, hd, h0, h1, h2⟩ := atB H.out HR.out hlt
          have HX := Lib.hid hx
          clear hd hx
          have hlt' : (k : Int) < (len : Int) := by omega
          have i0 : (0 : Int) ≤ (k : Int) := by omega
          have w1 : IntKind.i64.wrap (n - 1) = n - 1 := IntWalk.i64_in _ (by omega)
          by_cases ha : 0 ≤ x ∧ x ≤ n - 1
          · have w2 : IntKind.i64.wrap (x + 1) = x + 1 := IntWalk.i64_in _ (by omega)
            by_cases hc : x + 1 ≤ y ∧ y ≤ n
            · have ho : OkB n ⟨x, y, z⟩ := by unfold OkB; dsimp only; omega
              have HO := Lib.hid ho
              have K1 := Lib.hid ha
              have K2 := Lib.hid hc
              clear ho ha hc
              go_upto_region 6 with (fail)
              go_region_held3 (fun w' => w'.cell? ⟨b, off + k * 3, none⟩ = some (.int .i64 x) ∧ w'.cell? ⟨b, off + k * 3 + 1, none⟩ = some (.int .i64 y)) (go_keep)
                (first | (go_at_call 62; (with_reducible_and_instances refine (l6In_any x 0 _ _).mono ?_); intro e w' hp; obtain ⟨rfl, rfl⟩ := hp.yes K1.out) | (go_at_call 62; (with_reducible_and_instances refine (l6In_any y _ n _).mono ?_); intro e w' hp; obtain ⟨rfl, rfl⟩ := hp.yes K2.out) | fail)
              clear w1 w2
              go_wp2
              go_roundw
              case rel => exact ⟨k + 1, by omega, by go_num, allB_next HX.out HA.out HO.out, HR.out.drew⟩
              case measure => simp [intOf]; omega
            · have ho : ¬ OkB n ⟨x, y, z⟩ := by unfold OkB; dsimp only; omega
              have HO := Lib.hid (book_not HX.out ho)
              have K1 := Lib.hid ha
              have K2 := Lib.hid hc
              clear ho ha hc
              go_upto_region 6 with (fail)
              go_region_held3 (fun w' => w'.cell? ⟨b, off + k * 3, none⟩ = some (.int .i64 x) ∧ w'.cell? ⟨b, off + k * 3 + 1, none⟩ = some (.int .i64 y)) (go_keep)
                (first | (go_at_call 62; (with_reducible_and_instances refine (l6In_any x 0 _ _).mono ?_); intro e w' hp; obtain ⟨rfl, rfl⟩ := hp.yes K1.out) | (go_at_call 62; (with_reducible_and_instances refine (l6In_any y _ n _).mono ?_); intro e w' hp; obtain ⟨rfl, rfl⟩ := hp.no K2.out) | fail)
              clear w1 w2
              go_wp2
              go_ret
              exact onlyB_false HO.out HR.out.drew
          · have ho : ¬ OkB n ⟨x, y, z⟩ := by unfold OkB; dsimp only; omega
            have HO := Lib.hid (book_not HX.out ho)
            have K1 := Lib.hid ha
            clear ho ha
            go_upto_region 6 with (fail)
            have Q1 := Lib.hid (fun d => l6In_qf x 0 (n - 1) wr d K1.out)
            have Q2 := Lib.hid (fun d => l6In_qf x 0 (IntKind.i64.wrap (n - 1)) wr d (by rw [w1]; exact K1.out))
            clear w1
            go_quiet ((go_at_call 62; first | (with_reducible_and_instances exact Q1.out _) | (with_reducible_and_instances exact Q2.out _) | fail))
            go_wp2
            go_ret
            exact onlyB_false HO.out (bl_drewN HR.out _)
        · have hx : xs.take k = xs := List.take_of_length_le (by have := HL.out; omega)
          rw [hx] at HA
          clear hx
          go_wp2
          go_loopw [6] (fun l wl => ∃ j : Nat, (j : Int) ≤ n ∧ l = .int .i64 j ∧ (∀ i : Nat, i < j → taken xs i true ≤ 4 ∧ taken xs i false ≤ 6) ∧ Below w.heap.size w wl) (fun l _ => (n - intOf l).toNat)
          case atStart => exact ⟨0, by omega, rfl, fun i hi => absurd hi (by omega), HR.out⟩
          case round =>
            obtain ⟨j, hj, rfl, hleg, hbl⟩ := hrel
            have HJ := Lib.hid hleg
            have HM := Lib.hid hbl
            clear hleg hbl
            by_cases hjn : (j : Int) < n
            · have hb1 := taken_bd xs j true
              have hb2 := taken_bd xs j false
              have hxl := HL.out
              by_cases h4 : taken xs j true ≤ 4
              · by_cases h6 : taken xs j false ≤ 6
                · have HQ := Lib.hid (And.intro h4 h6)
                  generalize hT : taken xs j true = T4 at *
                  generalize hU : taken xs j false = T6 at *
                  go_wp2_with fail
                  refine (l4Taken_any _ _ _ j true _ _ (H.out.below HM.out) hn).mono ?_
                  rintro e w2 ⟨rfl, rfl⟩
                  rw [hT]
                  go_wp2_with fail
                  refine (l4Taken_any _ _ _ j false _ _ (H.out.below HM.out) hn).mono ?_
                  rintro e w3 ⟨rfl, rfl⟩
                  rw [hU]
                  go_wp2_with fail
                  go_roundw
                  case rel => exact ⟨j + 1, by omega, by go_num, fun i hi => if h : i = j then by rw [h, hT, hU]; exact HQ.out else HJ.out i (by omega), HM.out⟩
                  case measure => simp [intOf]; omega
                · have HQ := Lib.hid (book_leg (n := n) (xs := xs) hjn (fun h => h6 h.2))
                  generalize hT : taken xs j true = T4 at *
                  generalize hU : taken xs j false = T6 at *
                  go_wp2_with fail
                  refine (l4Taken_any _ _ _ j true _ _ (H.out.below HM.out) hn).mono ?_
                  rintro e w2 ⟨rfl, rfl⟩
                  rw [hT]
                  go_wp2_with fail
                  refine (l4Taken_any _ _ _ j false _ _ (H.out.below HM.out) hn).mono ?_
                  rintro e w3 ⟨rfl, rfl⟩
                  rw [hU]
                  go_wp2_with fail
                  go_ret
                  exact onlyB_false HQ.out HM.out
              · have HQ := Lib.hid (book_leg (n := n) (xs := xs) hjn (fun h => h4 h.1))
                generalize hT : taken xs j true = T4 at *
                clear hb2
                go_wp2_with fail
                refine (l4Taken_any _ _ _ j true _ _ (H.out.below HM.out) hn).mono ?_
                rintro e w2 ⟨rfl, rfl⟩
                rw [hT]
                go_wp2_with fail
                go_ret
                exact onlyB_false HQ.out HM.out
            · go_wp2
              go_ret
              exact onlyB_true ⟨hr1, hr2, by rw [HL.out]; exact hm, HA.out, fun i hi => HJ.out i (by omega)⟩ HM.out
    · have hm' : 16 < (len : Int) := by omega
      go_enter Tryz.func48, Tryz.ntmps48
      go_wp2_with (go_at_call 62; refine (l6In_any _ _ _ _).mono ?_; intro e w2 hp; obtain ⟨rfl, rfl⟩ := hp.yes ⟨hr1, hr2⟩)
      go_ret
      exact onlyB_false (fun hB => hm (by have := hB.2.2.1; rw [HL.out] at this; exact this)) (Below.refl _ _)
  · go_enter Tryz.func48, Tryz.ntmps48
    go_wp2_with (go_at_call 62; refine (l6In_any _ _ _ _).mono ?_; intro e w2 hp; obtain ⟨rfl, rfl⟩ := hp.no hr)
    go_ret
    exact onlyB_false (fun hB => hr ⟨hB.1, hB.2.1⟩) (Below.refl _ _)
end Go.Proofs.YtgjllminidlolaaGreatDoor
