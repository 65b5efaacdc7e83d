/- Contracts: timetables: StopsValid of both, linkStops. -/
import Derived.Test.YtgjllminidlolaaGreatDoorMAD
import Derived.Test.YtgjllminidlolaaGreatDoorMAE
import Derived.Test.YtgjllminidlolaaGreatDoorMAA
import Derived.Deep.QuietTactic
import Derived.BigQuiet
set_option linter.unusedVariables false
namespace Go.Proofs.YtgjllminidlolaaGreatDoor
open Go.RowKit

set_option maxRecDepth 20000 in
set_option maxHeartbeats 3200000 in
theorem specStopsValid_any (A : Option Addr) (n : Int) (len cap : Nat) (xs : List T3) (w : World) (h : SlE 3 enc3 w A len xs) (hn : len ≤ 16777216) (h1 : -1000000 ≤ n) (h2 : n ≤ 1000000) :
    Calls Tryz.prog 165 #[.int .i64 n, .slice A len cap] w (OnlyB (StopsOk n xs) w) := by
  have H := Lib.hid h
  have hxl := h.len
  have HL := Lib.hid hxl
  clear h hxl
  by_cases hr : 1 ≤ n ∧ n ≤ 8
  rotate_left
  · go_enter Tryz.func165, Tryz.ntmps165
    go_wp2_with (go_at_call 62; refine (l6In_any _ _ _ _).mono ?_; intro e w2 hp; obtain ⟨rfl, rfl⟩ := hp.no hr)
    go_ret
    exact onlyB_false (fun hB => hr ⟨hB.1, hB.2.1⟩) (Below.refl _ _)
  obtain ⟨hr1, hr2⟩ := hr
  by_cases hm : 2 ≤ (len : Int) ∧ (len : Int) ≤ 8
  rotate_left
  · go_enter Tryz.func165, Tryz.ntmps165
    go_wp2_with fail
    refine (l6In_any _ _ _ _).mono ?_
    intro e w2 hp
    obtain ⟨rfl, rfl⟩ := hp.yes ⟨hr1, hr2⟩
    clear hp
    go_wp2_with fail
    refine (l6In_any _ _ _ _).mono ?_
    intro e w2 hp
    obtain ⟨rfl, rfl⟩ := hp.no hm
    clear hp
    go_wp2_with fail
    go_ret
    exact onlyB_false (fun hB => hm (by have h3 := hB.2.2.1; have h4 := hB.2.2.2.1; rw [HL.out] at h3 h4; omega)) (Below.refl _ _)
  go_enter Tryz.func165, Tryz.ntmps165
  go_wp2_with fail
  refine (l6In_any _ _ _ _).mono ?_
  intro e w2 hp
  obtain ⟨rfl, rfl⟩ := hp.yes ⟨hr1, hr2⟩
  clear hp
  go_wp2_with fail
  refine (l6In_any _ _ _ _).mono ?_
  intro e w2 hp
  obtain ⟨rfl, rfl⟩ := hp.yes hm
  clear hp
  go_wp2_with fail
  go_loopw [5, 6, 7, 8] (fun l i _ _ wr => ∃ j : Nat, j ≤ len ∧ i = .int .i64 j ∧ l = .int .i64 (lastC xs j) ∧ SPre n xs j ∧ Below w.heap.size w wr) (fun _ i _ _ _ => len - (intOf i).toNat)
  case atStart => exact ⟨0, by omega, rfl, rfl, spre_nil n xs, Below.refl _ _⟩
  case round =>
    obtain ⟨j, hj, rfl, rfl, hpre, hbr⟩ := hrel
    have HR := Lib.hid hbr
    have HP := Lib.hid hpre
    have hlb := lastC_bd hpre (by rw [HL.out]; exact hj)
    clear hbr hpre
    obtain ⟨l, hl⟩ : ∃ l, lastC xs j = l := ⟨_, rfl⟩
    rw [hl] at hlb ⊢
    have HLC := Lib.hid hl
    clear hl
    by_cases hlt : j < len
    rotate_left
    · obtain rfl : j = len := by omega
      go_wp2_with fail
      go_ret
      exact onlyB_true ((stops_iff n xs).2 ⟨⟨hr1, hr2⟩, by rw [HL.out]; omega, by rw [HL.out]; exact HP.out⟩) HR.out
    obtain ⟨b, off, x, y, z, rfl, hbl, hx, hd, g0, g1, g2⟩ := at3 H.out HR.out hlt
    have HX := Lib.hid hx
    have HBX := Lib.hid (below_alloc HR.out (.cells #[.int .i64 x, .int .i64 y, .int .i64 z] 103))
    clear hd hx
    by_cases k1 : 0 ≤ x ∧ x ≤ n - 1
    rotate_left
    · have HK := Lib.hid (stops_bad HX.out (n := n) (fun h => k1 (by unfold OkS at h; dsimp only at h; omega)))
      go_wp2_with fail
      refine (l6In_any _ _ _ _).mono ?_
      intro e w2 hp
      obtain ⟨rfl, rfl⟩ := hp.no k1
      clear hp
      go_wp2_with fail
      go_ret
      exact onlyB_false HK.out HBX.out
    by_cases k2 : l + 1 ≤ y ∧ y ≤ 10000
    rotate_left
    · have HK := Lib.hid (show ¬ StopsOk n xs from by
        by_cases hy : y ≤ l
        · exact stops_late HX.out (by rw [HLC.out]; exact hy)
        · exact stops_bad HX.out (fun h => k2 (by unfold OkS at h; dsimp only at h; omega)))
      go_wp2_with fail
      refine (l6In_any _ _ _ _).mono ?_
      intro e w2 hp
      obtain ⟨rfl, rfl⟩ := hp.yes k1
      clear hp
      go_wp2_with fail
      refine (l6In_any _ _ _ _).mono ?_
      intro e w2 hp
      obtain ⟨rfl, rfl⟩ := hp.no k2
      clear hp
      go_wp2_with fail
      go_ret
      exact onlyB_false HK.out HBX.out
    by_cases k3 : y ≤ z ∧ z ≤ 10000
    rotate_left
    · have HK := Lib.hid (stops_bad HX.out (n := n) (fun h => k3 (by unfold OkS at h; dsimp only at h; omega)))
      go_wp2_with fail
      refine (l6In_any _ _ _ _).mono ?_
      intro e w2 hp
      obtain ⟨rfl, rfl⟩ := hp.yes k1
      clear hp
      go_wp2_with fail
      refine (l6In_any _ _ _ _).mono ?_
      intro e w2 hp
      obtain ⟨rfl, rfl⟩ := hp.yes k2
      clear hp
      go_wp2_with fail
      refine (l6In_any _ _ _ _).mono ?_
      intro e w2 hp
      obtain ⟨rfl, rfl⟩ := hp.no k3
      clear hp
      go_wp2_with fail
      go_ret
      exact onlyB_false HK.out HBX.out
    have HO := Lib.hid (show OkS n ⟨x, y, z⟩ from by unfold OkS; dsimp only; omega)
    go_wp2_with fail
    refine (l6In_any _ _ _ _).mono ?_
    intro e w2 hp
    obtain ⟨rfl, rfl⟩ := hp.yes k1
    clear hp
    go_wp2_with fail
    refine (l6In_any _ _ _ _).mono ?_
    intro e w2 hp
    obtain ⟨rfl, rfl⟩ := hp.yes k2
    clear hp
    go_wp2_with fail
    refine (l6In_any _ _ _ _).mono ?_
    intro e w2 hp
    obtain ⟨rfl, rfl⟩ := hp.yes k3
    clear hp
    have hc : ∀ W, Below (wr.alloc (.cells #[.int .i64 x, .int .i64 y, .int .i64 z] 103)).heap.size (wr.alloc (.cells #[.int .i64 x, .int .i64 y, .int .i64 z] 103)) W → W.cell? ⟨wr.heap.size, 0, none⟩ = some (.int .i64 x) ∧ W.cell? ⟨wr.heap.size, 2, none⟩ = some (.int .i64 z) := by
      intro W hW
      have hr : ∀ j, W.cell? ⟨wr.heap.size, j, none⟩ = (#[.int .i64 x, .int .i64 y, .int .i64 z] : Array Value)[j]? := fun j => by
        rw [hW.cell (p := ⟨wr.heap.size, j, none⟩) (by simp)]
        exact cell_of_row _ _ j _ 103 (0, 0) (heap_alloc_new wr _)
      exact ⟨hr 0, hr 2⟩
    have HC := Lib.hid hc
    clear hc
    obtain ⟨w0, rfl⟩ : ∃ w0, w0 = wr := ⟨_, rfl⟩
    go_wp2_with fail
    go_loopw [8] (fun i wr => ∃ k : Nat, k ≤ j ∧ i = .int .i64 k ∧ NotYet (fun q => q.a = x) xs k ∧ Below (w0.alloc (.cells #[.int .i64 x, .int .i64 y, .int .i64 z] 103)).heap.size (w0.alloc (.cells #[.int .i64 x, .int .i64 y, .int .i64 z] 103)) wr) (fun i _ => j - (intOf i).toNat)
    case atStart => exact ⟨0, by omega, rfl, notYet_nil _ _, Below.refl _ _⟩
    case round =>
      obtain ⟨k, hk, rfl, htw, hbr⟩ := hrel
      have HT := Lib.hid htw
      have HR2 := Lib.hid hbr
      have HB2 := Lib.hid (below_trans HBX.out hbr)
      clear htw hbr
      obtain ⟨q0, q2⟩ := HC.out _ HR2.out
      by_cases hkj : k < j
      · have hkl : k < len := by omega
        obtain ⟨b', off', u, v, t, he, hbl', hx', hd', f0, f1, f2⟩ := at3 H.out HB2.out hkl
        simp only [Option.some.injEq, Addr.mk.injEq, and_true] at he
        obtain ⟨rfl, rfl⟩ := he
        have HX' := Lib.hid hx'
        clear hd' hx' g0 g1 g2
        by_cases e1 : u = x
        · have d1 : (u == x) = true := by simpa using e1
          have HD := Lib.hid (stops_twin (n := n) hkj HX'.out HX.out e1)
          clear e1
          go_wp2_with fail
          go_quiet (fail)
          go_wp2_with fail
          go_ret
          exact onlyB_false HD.out (bl_drewN HB2.out _)
        · have d1 : (u == x) = false := by simpa using e1
          have HTW := Lib.hid (notYet_next HT.out HX'.out e1)
          clear e1
          go_wp2_with fail
          go_quiet (fail)
          go_wp2_with fail
          go_roundw
          case rel => exact ⟨k + 1, by omega, by go_num, HTW.out, bl_drewN HR2.out _⟩
          case measure => simp [intOf]; omega
      · obtain rfl : k = j := by omega
        have HN := Lib.hid (spre_next HP.out HX.out HO.out (by rw [HLC.out]; dsimp only; omega) HT.out)
        have HLN := Lib.hid (lastC_next HX.out)
        go_wp2_with fail
        go_roundw
        case rel => exact ⟨k + 1, by omega, by go_num, by rw [HLN.out], HN.out, HB2.out⟩
        case measure => simp [intOf]; omega
end Go.Proofs.YtgjllminidlolaaGreatDoor
