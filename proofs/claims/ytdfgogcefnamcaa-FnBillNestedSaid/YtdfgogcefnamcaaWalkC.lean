/- Contracts: the reference's and the program's BillValid. -/
import Derived.Test.YtdfgogcefnamcaaWalkB
set_option linter.unusedVariables false
namespace Go.Proofs.Ytdfgogcefnamcaa
open Go.RowKit

set_option maxHeartbeats 800000 in
theorem specBillValid_any (A : Option Addr) (n : Int) (len cap : Nat) (xs : List T3) (w : World) (h : SlE 3 enc3 w A len xs) (hn : len ≤ 16777216) :
    Calls Try.prog 18 #[.int .i64 n, .slice A len cap] w (OnlyB (BillOk n xs) w) := by
  have H := Lib.hid h
  have hxl := h.len
  have HL := Lib.hid hxl
  clear h hxl
  by_cases hr : 1 ≤ n ∧ n ≤ 7
  · obtain ⟨hr1, hr2⟩ := hr
    by_cases hm : len ≤ 12
    · have hm' : (len : Int) ≤ 12 := by omega
      go_enter Try.func18, Try.ntmps18
      go_wp2_with (go_at_call 68; refine (l6In_any _ _ _ _).mono ?_; intro e w2 hp; obtain ⟨rfl, rfl⟩ := hp.yes ⟨hr1, hr2⟩)
      go_loopw [5, 6] (fun i _ wr => ∃ k : Nat, k ≤ len ∧ i = .int .i64 k ∧ (∀ p ∈ xs.take k, OkP n p) ∧ Below w.heap.size w wr) (fun i _ _ => len - (intOf i).toNat)
      case atStart => exact ⟨0, by omega, rfl, by simp, Below.refl _ _⟩
      case round =>
        obtain ⟨k, hk, rfl, hall, hbr⟩ := hrel
        have HR := Lib.hid hbr
        have HA := Lib.hid hall
        clear hbr hall
        by_cases hlt : k < len
        · obtain ⟨b, off, x, y, z, rfl, hbl, hx, hd, h0, h1, h2⟩ := at3 H.out HR.out hlt
          have HX := Lib.hid hx
          clear hd hx
          go_wp2_with (go_at_call 68; refine (l6In_any _ _ _ _).mono ?_; intro e w2 hp; rcases hp.cases with ⟨rfl, hp, rfl⟩ | ⟨rfl, hp, rfl⟩)
          rotate_left
          iterate 3
            · go_ret
              exact onlyB_false (bill_not HX.out (by omega)) (below_alloc HR.out _)
          go_roundw
          case rel => exact ⟨k + 1, by omega, by go_num, allP_next HX.out HA.out (by omega), below_alloc HR.out _⟩
          case measure => simp [intOf]; omega
        · have hx : xs.take k = xs := List.take_of_length_le (by have := HL.out; omega)
          rw [hx] at HA
          clear hx
          go_wp2
          go_loop [7] (fun l => ∃ j : Nat, (j : Int) ≤ n ∧ l = .int .i64 j ∧ ∀ i : Nat, i < j → load xs i ≤ 300) (fun l => (n - intOf l).toNat)
          case atStart => exact ⟨0, by omega, rfl, fun i hi => absurd hi (by omega)⟩
          case round =>
            obtain ⟨j, hj, rfl, hleg⟩ := hrel
            have HJ := Lib.hid hleg
            clear hleg
            by_cases hjn : (j : Int) < n
            · have hb := load_bd xs j (okP_w HA.out)
              by_cases hlo : load xs j ≤ 300
              · go_wp2_with (go_at_call 69; refine (l9Load_any _ _ _ _ _ _ (H.out.below HR.out) hn (okP_w HA.out)).mono ?_; rintro e w2 ⟨rfl, rfl⟩)
                go_round
                case rel => exact ⟨j + 1, by omega, by go_num, fun i hi => if h : i = j then by rw [h]; exact hlo else HJ.out i (by omega)⟩
                case measure => simp [intOf]; omega
              · go_wp2_with (go_at_call 69; refine (l9Load_any _ _ _ _ _ _ (H.out.below HR.out) hn (okP_w HA.out)).mono ?_; rintro e w2 ⟨rfl, rfl⟩)
                go_ret
                exact onlyB_false (bill_load hjn (by omega)) HR.out
            · go_wp2
              go_ret
              exact onlyB_true ⟨hr1, hr2, by rw [HL.out]; exact hm, HA.out, fun i hi => HJ.out i (by omega)⟩ HR.out
    · have hm' : 12 < (len : Int) := by omega
      go_enter Try.func18, Try.ntmps18
      go_wp2_with (go_at_call 68; refine (l6In_any _ _ _ _).mono ?_; intro e w2 hp; obtain ⟨rfl, rfl⟩ := hp.yes ⟨hr1, hr2⟩)
      go_ret
      exact onlyB_false (fun hB => hm (by have := hB.2.2.1; rw [HL.out] at this; exact this)) (Below.refl _ _)
  · go_enter Try.func18, Try.ntmps18
    go_wp2_with (go_at_call 68; refine (l6In_any _ _ _ _).mono ?_; intro e w2 hp; obtain ⟨rfl, rfl⟩ := hp.no hr)
    go_ret
    exact onlyB_false (fun hB => hr ⟨hB.1, hB.2.1⟩) (Below.refl _ _)

set_option maxHeartbeats 800000 in
theorem implBillValid_any (A : Option Addr) (n : Int) (len cap : Nat) (xs : List T3) (w : World) (h : SlE 3 enc3 w A len xs) (hn : len ≤ 16777216) :
    Calls Try.prog 17 #[.int .i64 n, .slice A len cap] w (OnlyB (BillOk n xs) w) := by
  have H := Lib.hid h
  have hxl := h.len
  have HL := Lib.hid hxl
  clear h hxl
  by_cases hr : 1 ≤ n ∧ n ≤ 7
  · obtain ⟨hr1, hr2⟩ := hr
    by_cases hm : len ≤ 12
    · have hm' : (len : Int) ≤ 12 := by omega
      go_enter Try.func17, Try.ntmps17
      go_wp2_with (go_at_call 65; refine (legsValid_any _ _).mono ?_; intro e w2 hp; obtain ⟨rfl, rfl⟩ := hp.yes ⟨hr1, hr2⟩)
      go_loopw [18, 6] (fun i _ wr => ∃ k : Nat, k ≤ len ∧ i = .int .i64 k ∧ (∀ p ∈ xs.take k, OkP n p) ∧ Below w.heap.size w wr) (fun i _ _ => len - (intOf i).toNat)
      case atStart => exact ⟨0, by omega, rfl, by simp, Below.refl _ _⟩
      case round =>
        obtain ⟨k, hk, rfl, hall, hbr⟩ := hrel
        have HR := Lib.hid hbr
        have HA := Lib.hid hall
        clear hbr hall
        by_cases hlt : k < len
        · obtain ⟨b, off, x, y, z, rfl, hbl, hx, hd, h0, h1, h2⟩ := at3 H.out HR.out hlt
          have HX := Lib.hid hx
          clear hd hx
          go_wp2_with (go_at_call 66; refine (stopsOrdered_any _ _ _ _).mono ?_; intro e w2 hp; rcases hp.cases with ⟨rfl, hp, rfl⟩ | ⟨rfl, hp, rfl⟩)
          all_goals first
            | (go_ret; exact onlyB_false (bill_not HX.out (by omega)) (below_alloc HR.out _))
            | (go_roundw
               case rel => exact ⟨k + 1, by omega, by go_num, allP_next HX.out HA.out (by omega), below_alloc HR.out _⟩
               case measure => simp [intOf]; omega)
        · have hx : xs.take k = xs := List.take_of_length_le (by have := HL.out; omega)
          rw [hx] at HA
          clear hx
          go_wp2
          go_loopw [41, 7] (fun l _ wl => ∃ j : Nat, (j : Int) ≤ n ∧ l = .int .i64 j ∧ (∀ i : Nat, i < j → load xs i ≤ 300) ∧ Below w.heap.size w wl) (fun l _ _ => (n - intOf l).toNat)
          case atStart => exact ⟨0, by omega, rfl, fun i hi => absurd hi (by omega), HR.out⟩
          case round =>
            obtain ⟨j, hj, rfl, hleg, hbl⟩ := hrel
            have HJ := Lib.hid hleg
            have HM := Lib.hid hbl
            clear hleg hbl
            by_cases hjn : (j : Int) < n
            · have hb := load_bd xs j (okP_w HA.out)
              by_cases hlo : load xs j ≤ 300
              · go_wp2_with (go_at_call 67; refine (loadOn_any _ _ _ _ _ _ (H.out.below HM.out) hn (okP_w HA.out)).mono ?_; rintro e w2 ⟨rfl, hb2⟩; have HN := Lib.hid (below_trans HM.out hb2); clear hb2)
                go_roundw
                case rel => exact ⟨j + 1, by omega, by go_num, fun i hi => if h : i = j then by rw [h]; exact hlo else HJ.out i (by omega), HN.out⟩
                case measure => simp [intOf]; omega
              · go_wp2_with (go_at_call 67; refine (loadOn_any _ _ _ _ _ _ (H.out.below HM.out) hn (okP_w HA.out)).mono ?_; rintro e w2 ⟨rfl, hb2⟩; have HN := Lib.hid (below_trans HM.out hb2); clear hb2)
                go_ret
                exact onlyB_false (bill_load hjn (by omega)) HN.out
            · go_wp2
              go_ret
              exact onlyB_true ⟨hr1, hr2, by rw [HL.out]; exact hm, HA.out, fun i hi => HJ.out i (by omega)⟩ HM.out
    · have hm' : 12 < (len : Int) := by omega
      go_enter Try.func17, Try.ntmps17
      go_wp2_with (go_at_call 65; refine (legsValid_any _ _).mono ?_; intro e w2 hp; obtain ⟨rfl, rfl⟩ := hp.yes ⟨hr1, hr2⟩)
      go_ret
      exact onlyB_false (fun hB => hm (by have := hB.2.2.1; rw [HL.out] at this; exact this)) (Below.refl _ _)
  · go_enter Try.func17, Try.ntmps17
    go_wp2_with (go_at_call 65; refine (legsValid_any _ _).mono ?_; intro e w2 hp; obtain ⟨rfl, rfl⟩ := hp.no hr)
    go_ret
    exact onlyB_false (fun hB => hr ⟨hB.1, hB.2.1⟩) (Below.refl _ _)
end Go.Proofs.Ytdfgogcefnamcaa
