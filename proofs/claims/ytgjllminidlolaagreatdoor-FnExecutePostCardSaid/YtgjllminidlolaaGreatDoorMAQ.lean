/- Texts of mine in one: LawEWay Frame FrameU EFrame. -/
import Derived.Test.YtgjllminidlolaaGreatDoorMAH
import Derived.Test.YtgjllminidlolaaGreatDoorMAK
import Derived.Test.YtgjllminidlolaaGreatDoorMAN
import Derived.Test.YtgjllminidlolaaGreatDoorMAP
import Derived.Deep.QuietTactic
import Derived.BigQuiet
import Derived.Deep.RegionHeld3
import Derived.Test.YtgjllminidlolaaGreatDoorMAB
import Derived.Test.YtgjllminidlolaaGreatDoorRows
import Derived.ProofKit
import Derived.OpenShut
import Derived.ShutString
import Derived.ChangeOld
import Derived.Deep.Slices
import Derived.Deep.Fields
import Derived.Test.YtgjllminidlolaaGreatDoorMAL
import Derived.LaidMore
import Derived.Lay
import Derived.SevenTiedAt
import Derived.Stop.Joined
import Derived.Lib.LaidTab
import Derived.Shelf.Vars
import Derived.Stop.LaidErr
/- Walk of FnExecuteWay. -/
set_option linter.unusedVariables false
namespace Go.Proofs.YtgjllminidlolaaGreatDoor
open Go.RowKit Go.MapKept

/-- The text of the first roads. -/
def roadText (xs : List T3) (j : Nat) : List UInt8 := textOf ((xs.take j).map lineR)
theorem app_le {x y : List UInt8} {m k : Nat} (hx : x.length ≤ m) (hy : y.length ≤ k) : (x ++ y).length ≤ m + k := by
  rw [List.length_append]
  omega
theorem roadText_next {xs : List T3} {j : Nat} {p : T3} (h : xs[j]? = some p) : roadText xs (j + 1) = roadText xs j ++ [114, 111, 97, 100, 32] ++ Lib.decDigits p.a.toNat ++ [32] ++ Lib.decDigits p.b.toNat ++ [32] ++ Lib.decDigits p.c.toNat ++ [10] := by
  unfold roadText
  rw [take_next h, List.map_append, textOf_append]
  simp [textOf, lineR, roadW]
theorem roadText_all (xs : List T3) (a b : Int) : roadText xs xs.length ++ [102, 97, 114] ++ ([32] ++ Lib.decDigits a.toNat ++ [32] ++ Lib.decDigits b.toNat ++ [10]) ++ [119, 97, 121] ++ ([32] ++ Lib.decDigits a.toNat ++ [32] ++ Lib.decDigits b.toNat ++ [10]) = textOf (wayLines xs a b) := by
  unfold roadText wayLines
  rw [List.take_length, textOf_append]
  simp [textOf, lineQ, farW, wayW]
theorem roadText_len {xs : List T3} (h : RoadOk 6 xs) (j : Nat) : (roadText xs j).length ≤ 192 := by
  have h1 := textOf_len 11 ((xs.take j).map lineR) (fun l hl => by
    obtain ⟨p, hp, rfl⟩ := List.mem_map.1 hl
    have := h.2.2.2.1 p (List.mem_of_mem_take hp)
    exact lineR_len (by omega) (by omega) (by omega))
  have h2 := h.2.2.1
  rw [List.length_map, List.length_take] at h1
  unfold roadText
  omega
set_option maxRecDepth 20000 in
set_option maxHeartbeats 12800000 in
theorem lawFnExecuteWay_walk (A0 : Option Addr) (len0 cap0 : Nat) (xs0 : List Int) (w : World) (hm : Env w) (h0 : SlE 1 encU w A0 len0 xs0) (hb0 : Bytes xs0) (hc0 : len0 ≤ cap0) :
    Calls Tryz.prog 7 #[.slice A0 len0 cap0] w (Only (.bool true) w) := by
  have H0 := Lib.hid h0
  have HB0 := Lib.hid hb0
  have HM := Lib.hid hm
  clear h0 hb0 hm
  by_cases hbig : (len0 : Int) ≤ 1048576
  rotate_left
  · go_enter Tryz.func7, Tryz.ntmps7
    go_wp2_with fail
    go_ret
    exact ⟨rfl, Below.refl _ _⟩
  go_enter Tryz.func7, Tryz.ntmps7
  go_wp2_with fail
  refine (drawRoadsWay_any A0 len0 cap0 xs0 w H0.out HB0.out (by omega) hc0).mono ?_
  rintro e w1 ⟨n, v, xs, a, b, rfl, n1, n2, hl, hown, hb⟩
  clear H0 HB0
  obtain ⟨A, c, rfl, -, hlc⟩ := hown.slc enc3_len rfl
  generalize hlen : xs.length = len at *
  have HL := Lib.hid hlen
  have S1 := Lib.hid (sl_of_own_at enc3_len hown hlen)
  have B1 := Lib.hid hb
  clear hown hb hlen
  have HPI := Lib.hid (fun W h => implRoadsWay_any A n a b len c xs W h (by omega))
  have HPS := Lib.hid (fun W h => specRoadsWay_any A n a b len c xs W h (by omega) (by omega) (by omega))
  by_cases hf : 0 ≤ farV n xs a b
  rotate_left
  · rw [decide_eq_false hf, wayV_no (by omega)] at HPI HPS
    clear hf
    go_wp2_with fail
    refine (HPI.out w1 S1.out).mono ?_
    rintro e w2 ⟨v2, rfl, hown, hb⟩
    obtain ⟨A2, c2, rfl, -, hc2⟩ := hown.slc encI_len (n := 0) rfl
    have S2 := Lib.hid (S1.out.below hb)
    have B2 := Lib.hid (below_trans B1.out hb)
    have E2 := Lib.hid (sl_of_own_at encI_len hown rfl)
    clear hb S1 B1 hown
    go_wp2_with fail
    refine (HPS.out w2 S2.out).mono ?_
    rintro e w3 ⟨v3, rfl, hown, hb⟩
    obtain ⟨A3, c3, rfl, -, hc3⟩ := hown.slc encI_len (n := 0) rfl
    have E3 := Lib.hid (E2.out.below hb)
    have B3 := Lib.hid (below_trans B2.out hb)
    have F3 := Lib.hid (sl_of_own_at encI_len hown rfl)
    clear hb S2 E2 B2 hown
    go_wp2_with fail
    refine (sameInts_yes A2 A3 0 c2 c3 [] w3 E3.out F3.out (by omega)).mono ?_
    rintro e w4 ⟨rfl, hb⟩
    have E4 := Lib.hid (E3.out.below hb)
    have F4 := Lib.hid (F3.out.below hb)
    have B4 := Lib.hid (below_trans B3.out hb)
    clear hb E3 F3 B3
    go_wp2_with fail
    refine (sameInts_yes A2 A3 0 c2 c3 [] w4 E4.out F4.out (by omega)).mono ?_
    rintro e w5 ⟨rfl, hb⟩
    have B5 := Lib.hid (below_trans B4.out hb)
    clear hb E4 F4 B4
    go_wp2_with fail
    go_ret
    exact ⟨rfl, B5.out⟩
  have hq := farV_far hf
  have hr6 := road_six hq.1.1 n2
  have HR6 := Lib.hid hr6
  have ha6 := hq.1.2.1
  have hb6 := hq.1.2.2
  have hfb := farV_bd n xs a b
  have HWL := Lib.hid (wayV_len hf)
  have HWM := Lib.hid (fun x hx => wayV_mem hf x hx)
  have HEX := Lib.hid (fun W hE => way_execute (a := a) (b := b) hr6 (by omega) (by omega) (by rw [farV_six hf n2]; exact hf) W hE)
  rw [farV_six hf n2, wayV_six hf n2, HL.out] at HEX
  have HSZ := Lib.hid (way_size (a := a) (b := b) hr6 (by omega) (by omega))
  have HWT := Lib.hid (roadText_all xs a b)
  rw [HL.out] at HWT
  have HTL := Lib.hid (fun j => roadText_len hr6 j)
  have HFR := Lib.hid (fun W h => implRoadsFar_any A n a b len c xs W h (by omega))
  rw [decide_eq_true hf] at HPI HPS
  generalize farV n xs a b = v at *
  generalize wayV n xs a b = out at *
  obtain ⟨m, hml⟩ : ∃ m, out.length = m := ⟨_, rfl⟩
  rw [hml] at HWL
  have HML := Lib.hid hml
  have hm8 := HWL.out
  clear hq hr6 hml
  go_wp2_with fail
  refine (HPI.out w1 S1.out).mono ?_
  rintro e w2 ⟨v2, rfl, hown, hb⟩
  obtain ⟨A2, c2, rfl, -, hc2⟩ := hown.slc encI_len (n := m) HML.out
  have S2 := Lib.hid (S1.out.below hb)
  have B2 := Lib.hid (below_trans B1.out hb)
  have X2 := Lib.hid (sl_of_own_at encI_len hown HML.out)
  clear hb S1 B1 hown
  go_wp2_with fail
  refine (HPS.out w2 S2.out).mono ?_
  rintro e w3 ⟨v3, rfl, hown, hb⟩
  obtain ⟨A3, c3, rfl, -, hc3⟩ := hown.slc encI_len (n := m) HML.out
  have S3 := Lib.hid (S2.out.below hb)
  have X3 := Lib.hid (X2.out.below hb)
  have B3 := Lib.hid (below_trans B2.out hb)
  have Y3 := Lib.hid (sl_of_own_at encI_len hown HML.out)
  clear hb S2 X2 B2 hown
  go_wp2_with fail
  refine (sameInts_yes A2 A3 m c2 c3 out w3 X3.out Y3.out (by omega)).mono ?_
  rintro e w4 ⟨rfl, hb⟩
  have S4 := Lib.hid (S3.out.below hb)
  have X4 := Lib.hid (X3.out.below hb)
  have B4 := Lib.hid (below_trans B3.out hb)
  clear hb S3 X3 Y3 B3 HPI HPS
  have i6 : ¬ (6 : Int) < n := by omega
  obtain ⟨a, rfl⟩ : ∃ i : Nat, a = i := ⟨a.toNat, by omega⟩
  obtain ⟨b, rfl⟩ : ∃ i : Nat, b = i := ⟨b.toNat, by omega⟩
  obtain ⟨v, rfl⟩ : ∃ i : Nat, v = i := ⟨v.toNat, by omega⟩
  have HDA := Lib.hid (fun W => digits_any a W (by omega))
  have HDB := Lib.hid (fun W => digits_any b W (by omega))
  have HDV := Lib.hid (fun W => digits_any v W (by omega))
  obtain ⟨W0, rfl⟩ : ∃ W0, W0 = w4 := ⟨_, rfl⟩
  go_wp2_with fail
  go_loopw [11, 12] (fun s i wr => ∃ j : Nat, j ≤ len ∧ i = .int .i64 j ∧ s = .string (bs (roadText xs j)) ∧ Below W0.heap.size W0 wr) (fun _ i _ => len - (intOf i).toNat)
  case atStart => exact ⟨0, by omega, rfl, rfl, Below.refl _ _⟩
  case round =>
    obtain ⟨j, hj, rfl, rfl, hbr⟩ := hrel
    have HR := Lib.hid hbr
    clear hbr
    by_cases hjl : j < len
    · obtain ⟨bb, off, x, y, z, rfl, hbl, hx, hd, g0, g1, g2⟩ := at3 S4.out HR.out hjl
      have hob := HR6.out.2.2.2.1 _ (mem_at hx)
      dsimp only at hob
      have HTN := Lib.hid (roadText_next hx)
      dsimp only at HTN
      obtain ⟨x, rfl⟩ : ∃ i : Nat, x = i := ⟨x.toNat, by omega⟩
      obtain ⟨y, rfl⟩ : ∃ i : Nat, y = i := ⟨y.toNat, by omega⟩
      obtain ⟨z, rfl⟩ : ∃ i : Nat, z = i := ⟨z.toNat, by omega⟩
      have hw1 := HTL.out j
      have hw2 := decDigits_len 1 x (by omega) (by omega)
      have hw3 := decDigits_len 1 y (by omega) (by omega)
      have hw4 := decDigits_len 2 z (by omega) (by omega)
      have HD1 := Lib.hid (fun W => digits_any x W (by omega))
      have HD2 := Lib.hid (fun W => digits_any y W (by omega))
      have HD3 := Lib.hid (fun W => digits_any z W (by omega))
      have HC0 := Lib.hid (And.intro g0 (And.intro g1 g2))
      clear hd hx hob
      have ad1 : ∀ W, (Op.stringOp .add (bs (roadText xs j)) ⟨#[114, 111, 97, 100, 32]⟩).run Tryz.prog W = .ok (.string (bs ((roadText xs j) ++ [114, 111, 97, 100, 32]))) W := add_lists ((roadText xs j)) [114, 111, 97, 100, 32] (Nat.le_trans hw1 (by decide)) (Nat.le_trans (show ([114, 111, 97, 100, 32] : List UInt8).length ≤ 5 from Nat.le_refl _) (by decide))
      have lad1 := app_le hw1 (show ([114, 111, 97, 100, 32] : List UInt8).length ≤ 5 from Nat.le_refl _)
      have ad2 : ∀ W, (Op.stringOp .add (bs ((roadText xs j) ++ [114, 111, 97, 100, 32])) (bs (Lib.decDigits x))).run Tryz.prog W = .ok (.string (bs ((roadText xs j) ++ [114, 111, 97, 100, 32] ++ (Lib.decDigits x)))) W := add_lists ((roadText xs j) ++ [114, 111, 97, 100, 32]) (Lib.decDigits x) (Nat.le_trans lad1 (by decide)) (Nat.le_trans hw2 (by decide))
      have lad2 := app_le lad1 hw2
      have ad3 : ∀ W, (Op.stringOp .add (bs ((roadText xs j) ++ [114, 111, 97, 100, 32] ++ (Lib.decDigits x))) ⟨#[32]⟩).run Tryz.prog W = .ok (.string (bs ((roadText xs j) ++ [114, 111, 97, 100, 32] ++ (Lib.decDigits x) ++ [32]))) W := add_lists ((roadText xs j) ++ [114, 111, 97, 100, 32] ++ (Lib.decDigits x)) [32] (Nat.le_trans lad2 (by decide)) (Nat.le_trans (show ([32] : List UInt8).length ≤ 1 from Nat.le_refl _) (by decide))
      have lad3 := app_le lad2 (show ([32] : List UInt8).length ≤ 1 from Nat.le_refl _)
      have ad4 : ∀ W, (Op.stringOp .add (bs ((roadText xs j) ++ [114, 111, 97, 100, 32] ++ (Lib.decDigits x) ++ [32])) (bs (Lib.decDigits y))).run Tryz.prog W = .ok (.string (bs ((roadText xs j) ++ [114, 111, 97, 100, 32] ++ (Lib.decDigits x) ++ [32] ++ (Lib.decDigits y)))) W := add_lists ((roadText xs j) ++ [114, 111, 97, 100, 32] ++ (Lib.decDigits x) ++ [32]) (Lib.decDigits y) (Nat.le_trans lad3 (by decide)) (Nat.le_trans hw3 (by decide))
      have lad4 := app_le lad3 hw3
      have ad5 : ∀ W, (Op.stringOp .add (bs ((roadText xs j) ++ [114, 111, 97, 100, 32] ++ (Lib.decDigits x) ++ [32] ++ (Lib.decDigits y))) ⟨#[32]⟩).run Tryz.prog W = .ok (.string (bs ((roadText xs j) ++ [114, 111, 97, 100, 32] ++ (Lib.decDigits x) ++ [32] ++ (Lib.decDigits y) ++ [32]))) W := add_lists ((roadText xs j) ++ [114, 111, 97, 100, 32] ++ (Lib.decDigits x) ++ [32] ++ (Lib.decDigits y)) [32] (Nat.le_trans lad4 (by decide)) (Nat.le_trans (show ([32] : List UInt8).length ≤ 1 from Nat.le_refl _) (by decide))
      have lad5 := app_le lad4 (show ([32] : List UInt8).length ≤ 1 from Nat.le_refl _)
      have ad6 : ∀ W, (Op.stringOp .add (bs ((roadText xs j) ++ [114, 111, 97, 100, 32] ++ (Lib.decDigits x) ++ [32] ++ (Lib.decDigits y) ++ [32])) (bs (Lib.decDigits z))).run Tryz.prog W = .ok (.string (bs ((roadText xs j) ++ [114, 111, 97, 100, 32] ++ (Lib.decDigits x) ++ [32] ++ (Lib.decDigits y) ++ [32] ++ (Lib.decDigits z)))) W := add_lists ((roadText xs j) ++ [114, 111, 97, 100, 32] ++ (Lib.decDigits x) ++ [32] ++ (Lib.decDigits y) ++ [32]) (Lib.decDigits z) (Nat.le_trans lad5 (by decide)) (Nat.le_trans hw4 (by decide))
      have lad6 := app_le lad5 hw4
      have ad7 : ∀ W, (Op.stringOp .add (bs ((roadText xs j) ++ [114, 111, 97, 100, 32] ++ (Lib.decDigits x) ++ [32] ++ (Lib.decDigits y) ++ [32] ++ (Lib.decDigits z))) ⟨#[10]⟩).run Tryz.prog W = .ok (.string (bs (roadText xs (j + 1)))) W := fun W => by
        rw [HTN.out]; dsimp only [Int.toNat_natCast]
        exact add_lists ((roadText xs j) ++ [114, 111, 97, 100, 32] ++ (Lib.decDigits x) ++ [32] ++ (Lib.decDigits y) ++ [32] ++ (Lib.decDigits z)) [10] (Nat.le_trans lad6 (by decide)) (Nat.le_trans (show ([10] : List UInt8).length ≤ 1 from Nat.le_refl _) (by decide)) W
      clear lad1 lad2 lad3 lad4 lad5 lad6
      clear hw1 hw2 hw3 hw4 HTN
      generalize hTN : bs (roadText xs (j + 1)) = TN at *
      have HTNX := Lib.hid hTN
      clear hTN
      generalize bs ((roadText xs j) ++ [114, 111, 97, 100, 32] ++ (Lib.decDigits x) ++ [32] ++ (Lib.decDigits y) ++ [32] ++ (Lib.decDigits z)) = T5 at *
      generalize bs ((roadText xs j) ++ [114, 111, 97, 100, 32] ++ (Lib.decDigits x) ++ [32] ++ (Lib.decDigits y) ++ [32]) = T4 at *
      generalize bs ((roadText xs j) ++ [114, 111, 97, 100, 32] ++ (Lib.decDigits x) ++ [32] ++ (Lib.decDigits y)) = T3 at *
      generalize bs ((roadText xs j) ++ [114, 111, 97, 100, 32] ++ (Lib.decDigits x) ++ [32]) = T2 at *
      generalize bs ((roadText xs j) ++ [114, 111, 97, 100, 32] ++ (Lib.decDigits x)) = T1 at *
      generalize bs ((roadText xs j) ++ [114, 111, 97, 100, 32]) = T0 at *
      generalize bs (roadText xs j) = TS at *
      generalize bs (Lib.decDigits x) = D1 at *
      generalize bs (Lib.decDigits y) = D2 at *
      generalize bs (Lib.decDigits z) = D3 at *
      go_wp2_with fail
      go_region_held3 (fun w' => w'.cell? ⟨bb, off + j * 3, none⟩ = some (.int .i64 x) ∧ w'.cell? ⟨bb, off + j * 3 + 1, none⟩ = some (.int .i64 y) ∧ w'.cell? ⟨bb, off + j * 3 + 2, none⟩ = some (.int .i64 z))
        (first | exact HC0.out | exact CZ2.out | exact CZ3.out | exact CZ4.out | fail)
        (first
          | (go_at_call 19; have HQ := HB3; (with_reducible_and_instances refine (HD3.out _).mono ?_); rintro e w4 ⟨rfl, hb4⟩; have HB4 := Lib.hid (below_trans HB3.out hb4); have CZ4 := Lib.hid (cells3_below hb4 CZ3.out); clear hb4)
          | (go_at_call 19; have HQ := HB2; (with_reducible_and_instances refine (HD2.out _).mono ?_); rintro e w3 ⟨rfl, hb3⟩; have HB3 := Lib.hid (below_trans HB2.out hb3); have CZ3 := Lib.hid (cells3_below hb3 CZ2.out); clear hb3)
          | (go_at_call 19; (with_reducible_and_instances refine (HD1.out _).mono ?_); rintro e w2 ⟨rfl, hb2⟩; have HB2 := Lib.hid (below_trans (below_drew HR.out) hb2); have CZ2 := Lib.hid (cells3_below hb2 HC0.out); clear hb2)
          | fail)
      go_wp2_with fail
      go_roundw
      case rel => exact ⟨j + 1, by omega, by go_num, by rw [HTNX.out], HB4.out⟩
      case measure => simp [intOf]; omega
    · obtain rfl : len = j := by omega
      have hw1 := HTL.out len
      have hw2 := decDigits_len 1 a (by omega) (by omega)
      have hw3 := decDigits_len 1 b (by omega) (by omega)
      have hw4 : (decI (v : Int)).length ≤ 3 := decDigits_len 3 v (by omega) (by omega)
      have hw5 := spaced_le (ns := out) (fun x hx => by have := HWM.out x hx; omega)
      replace hw5 : (spacedL out).length ≤ 24 := by rw [HML.out] at hw5; omega
      have hw6 : (textOf (List.replicate len okL)).length ≤ 48 := by rw [okText_len]; omega
      have hw8 : (endL len 0 0 ++ [10]).length ≤ 41 := app_le (endL_len len 0 0 (by omega) (by omega) (by omega)) (Nat.le_refl _)
      rw [Int.toNat_natCast, Int.toNat_natCast] at HWT
      have bd1 : ∀ W, (Op.stringOp .add ⟨#[32]⟩ (bs (Lib.decDigits a))).run Tryz.prog W = .ok (.string (bs ([32] ++ (Lib.decDigits a)))) W := add_lists ([32]) (Lib.decDigits a) (Nat.le_trans (show ([32] : List UInt8).length ≤ 1 from Nat.le_refl _) (by decide)) (Nat.le_trans hw2 (by decide))
      have lbd1 := app_le (show ([32] : List UInt8).length ≤ 1 from Nat.le_refl _) hw2
      have bd2 : ∀ W, (Op.stringOp .add (bs ([32] ++ (Lib.decDigits a))) ⟨#[32]⟩).run Tryz.prog W = .ok (.string (bs ([32] ++ (Lib.decDigits a) ++ [32]))) W := add_lists ([32] ++ (Lib.decDigits a)) [32] (Nat.le_trans lbd1 (by decide)) (Nat.le_trans (show ([32] : List UInt8).length ≤ 1 from Nat.le_refl _) (by decide))
      have lbd2 := app_le lbd1 (show ([32] : List UInt8).length ≤ 1 from Nat.le_refl _)
      have bd3 : ∀ W, (Op.stringOp .add (bs ([32] ++ (Lib.decDigits a) ++ [32])) (bs (Lib.decDigits b))).run Tryz.prog W = .ok (.string (bs ([32] ++ (Lib.decDigits a) ++ [32] ++ (Lib.decDigits b)))) W := add_lists ([32] ++ (Lib.decDigits a) ++ [32]) (Lib.decDigits b) (Nat.le_trans lbd2 (by decide)) (Nat.le_trans hw3 (by decide))
      have lbd3 := app_le lbd2 hw3
      have bd4 : ∀ W, (Op.stringOp .add (bs ([32] ++ (Lib.decDigits a) ++ [32] ++ (Lib.decDigits b))) ⟨#[10]⟩).run Tryz.prog W = .ok (.string (bs ([32] ++ (Lib.decDigits a) ++ [32] ++ (Lib.decDigits b) ++ [10]))) W := add_lists ([32] ++ (Lib.decDigits a) ++ [32] ++ (Lib.decDigits b)) [10] (Nat.le_trans lbd3 (by decide)) (Nat.le_trans (show ([10] : List UInt8).length ≤ 1 from Nat.le_refl _) (by decide))
      have lbd4 := app_le lbd3 (show ([10] : List UInt8).length ≤ 1 from Nat.le_refl _)
      clear lbd1 lbd2 lbd3
      have cd1 : ∀ W, (Op.stringOp .add (bs (roadText xs len)) ⟨#[102, 97, 114]⟩).run Tryz.prog W = .ok (.string (bs ((roadText xs len) ++ [102, 97, 114]))) W := add_lists ((roadText xs len)) [102, 97, 114] (Nat.le_trans hw1 (by decide)) (Nat.le_trans (show ([102, 97, 114] : List UInt8).length ≤ 3 from Nat.le_refl _) (by decide))
      have lcd1 := app_le hw1 (show ([102, 97, 114] : List UInt8).length ≤ 3 from Nat.le_refl _)
      have cd2 : ∀ W, (Op.stringOp .add (bs ((roadText xs len) ++ [102, 97, 114])) (bs ([32] ++ (Lib.decDigits a) ++ [32] ++ (Lib.decDigits b) ++ [10]))).run Tryz.prog W = .ok (.string (bs ((roadText xs len) ++ [102, 97, 114] ++ ([32] ++ (Lib.decDigits a) ++ [32] ++ (Lib.decDigits b) ++ [10])))) W := add_lists ((roadText xs len) ++ [102, 97, 114]) ([32] ++ (Lib.decDigits a) ++ [32] ++ (Lib.decDigits b) ++ [10]) (Nat.le_trans lcd1 (by decide)) (Nat.le_trans lbd4 (by decide))
      have lcd2 := app_le lcd1 lbd4
      have cd3 : ∀ W, (Op.stringOp .add (bs ((roadText xs len) ++ [102, 97, 114] ++ ([32] ++ (Lib.decDigits a) ++ [32] ++ (Lib.decDigits b) ++ [10]))) ⟨#[119, 97, 121]⟩).run Tryz.prog W = .ok (.string (bs ((roadText xs len) ++ [102, 97, 114] ++ ([32] ++ (Lib.decDigits a) ++ [32] ++ (Lib.decDigits b) ++ [10]) ++ [119, 97, 121]))) W := add_lists ((roadText xs len) ++ [102, 97, 114] ++ ([32] ++ (Lib.decDigits a) ++ [32] ++ (Lib.decDigits b) ++ [10])) [119, 97, 121] (Nat.le_trans lcd2 (by decide)) (Nat.le_trans (show ([119, 97, 121] : List UInt8).length ≤ 3 from Nat.le_refl _) (by decide))
      have lcd3 := app_le lcd2 (show ([119, 97, 121] : List UInt8).length ≤ 3 from Nat.le_refl _)
      have cd4 : ∀ W, (Op.stringOp .add (bs ((roadText xs len) ++ [102, 97, 114] ++ ([32] ++ (Lib.decDigits a) ++ [32] ++ (Lib.decDigits b) ++ [10]) ++ [119, 97, 121])) (bs ([32] ++ (Lib.decDigits a) ++ [32] ++ (Lib.decDigits b) ++ [10]))).run Tryz.prog W = .ok (.string (bs (textOf (wayLines xs a b)))) W := fun W => by
        rw [← HWT.out]
        exact add_lists ((roadText xs len) ++ [102, 97, 114] ++ ([32] ++ (Lib.decDigits a) ++ [32] ++ (Lib.decDigits b) ++ [10]) ++ [119, 97, 121]) ([32] ++ (Lib.decDigits a) ++ [32] ++ (Lib.decDigits b) ++ [10]) (Nat.le_trans lcd3 (by decide)) (Nat.le_trans lbd4 (by decide)) W
      clear lcd1 lcd2 lcd3
      have ed1 : ∀ W, (Op.stringOp .add (bs (textOf (List.replicate len okL))) (bs (decI v))).run Tryz.prog W = .ok (.string (bs ((textOf (List.replicate len okL)) ++ (decI v)))) W := add_lists ((textOf (List.replicate len okL))) (decI v) (Nat.le_trans hw6 (by decide)) (Nat.le_trans hw4 (by decide))
      have led1 := app_le hw6 hw4
      have ed2 : ∀ W, (Op.stringOp .add (bs ((textOf (List.replicate len okL)) ++ (decI v))) ⟨#[10]⟩).run Tryz.prog W = .ok (.string (bs ((textOf (List.replicate len okL)) ++ (decI v) ++ [10]))) W := add_lists ((textOf (List.replicate len okL)) ++ (decI v)) [10] (Nat.le_trans led1 (by decide)) (Nat.le_trans (show ([10] : List UInt8).length ≤ 1 from Nat.le_refl _) (by decide))
      have led2 := app_le led1 (show ([10] : List UInt8).length ≤ 1 from Nat.le_refl _)
      have ed3 : ∀ W, (Op.stringOp .add (bs ((textOf (List.replicate len okL)) ++ (decI v) ++ [10])) (bs (spacedL out))).run Tryz.prog W = .ok (.string (bs ((textOf (List.replicate len okL)) ++ (decI v) ++ [10] ++ (spacedL out)))) W := add_lists ((textOf (List.replicate len okL)) ++ (decI v) ++ [10]) (spacedL out) (Nat.le_trans led2 (by decide)) (Nat.le_trans hw5 (by decide))
      have led3 := app_le led2 hw5
      have ed4 : ∀ W, (Op.stringOp .add (bs ((textOf (List.replicate len okL)) ++ (decI v) ++ [10] ++ (spacedL out))) ⟨#[10]⟩).run Tryz.prog W = .ok (.string (bs ((textOf (List.replicate len okL)) ++ (decI v) ++ [10] ++ (spacedL out) ++ [10]))) W := add_lists ((textOf (List.replicate len okL)) ++ (decI v) ++ [10] ++ (spacedL out)) [10] (Nat.le_trans led3 (by decide)) (Nat.le_trans (show ([10] : List UInt8).length ≤ 1 from Nat.le_refl _) (by decide))
      have led4 := app_le led3 (show ([10] : List UInt8).length ≤ 1 from Nat.le_refl _)
      have ed5 : ∀ W, (Op.stringOp .add (bs ((textOf (List.replicate len okL)) ++ (decI v) ++ [10] ++ (spacedL out) ++ [10])) (bs (endL len 0 0 ++ [10]))).run Tryz.prog W = .ok (.string (bs ((textOf (List.replicate len okL)) ++ (decI v) ++ [10] ++ (spacedL out) ++ [10] ++ (endL len 0 0 ++ [10])))) W := add_lists ((textOf (List.replicate len okL)) ++ (decI v) ++ [10] ++ (spacedL out) ++ [10]) (endL len 0 0 ++ [10]) (Nat.le_trans led4 (by decide)) (Nat.le_trans hw8 (by decide))
      have led5 := app_le led4 hw8
      clear led1 led2 led3 led4 led5
      have HE := Lib.hid (fun (W : World) (hW : Below w.heap.size w W) => HEX.out W (HM.out.later hW))
      have HKO := Lib.hid (fun W => okLines_any len W (by omega))
      have HKS := Lib.hid (fun (W : World) (h : SlE 1 encI W A2 m out) => spaced_any A2 m c2 out W h (by omega) (fun x hx => by have := HWM.out x hx; omega))
      have HKE : Hid (∀ W, Calls Tryz.prog 22 #[.int .i64 len, .int .i64 0, .int .i64 0] W (Only (.string (bs (endL len 0 0 ++ [10]))) W)) := Lib.hid (fun W => endLine_any len 0 0 W (by omega) (by omega) (by omega))
      have BR := Lib.hid (below_trans B4.out HR.out)
      have XR := Lib.hid (X4.out.below HR.out)
      have SR := Lib.hid (S4.out.below HR.out)
      have HDV2 : Hid (∀ W, Calls Tryz.prog 19 #[.int .i64 v] W (Only (.string (bs (decI (v : Int)))) W)) := HDV
      clear hw1 hw2 hw3 hw4 hw5 hw6 hw8 lbd4 HDV HWT HEX
      generalize hFN : bs ((textOf (List.replicate len okL)) ++ (decI v) ++ [10] ++ (spacedL out) ++ [10] ++ (endL len 0 0 ++ [10])) = FN at *
      clear hFN
      generalize bs ((textOf (List.replicate len okL)) ++ (decI v) ++ [10] ++ (spacedL out) ++ [10]) = X3 at *
      generalize bs ((textOf (List.replicate len okL)) ++ (decI v) ++ [10] ++ (spacedL out)) = X2 at *
      generalize bs ((textOf (List.replicate len okL)) ++ (decI v) ++ [10]) = X1 at *
      generalize bs ((textOf (List.replicate len okL)) ++ (decI v)) = X0 at *
      generalize bs (textOf (wayLines xs a b)) = V3 at *
      generalize bs ((roadText xs len) ++ [102, 97, 114] ++ ([32] ++ (Lib.decDigits a) ++ [32] ++ (Lib.decDigits b) ++ [10]) ++ [119, 97, 121]) = V2 at *
      generalize bs ((roadText xs len) ++ [102, 97, 114] ++ ([32] ++ (Lib.decDigits a) ++ [32] ++ (Lib.decDigits b) ++ [10])) = V1 at *
      generalize bs ((roadText xs len) ++ [102, 97, 114]) = V0 at *
      generalize bs ([32] ++ (Lib.decDigits a) ++ [32] ++ (Lib.decDigits b) ++ [10]) = U3 at *
      generalize bs ([32] ++ (Lib.decDigits a) ++ [32] ++ (Lib.decDigits b)) = U2 at *
      generalize bs ([32] ++ (Lib.decDigits a) ++ [32]) = U1 at *
      generalize bs ([32] ++ (Lib.decDigits a)) = U0 at *
      generalize bs (roadText xs len) = TS at *
      generalize bs (textOf (List.replicate len okL)) = TO at *
      generalize bs (spacedL out) = TP at *
      generalize bs (endL len 0 0 ++ [10]) = TE at *
      generalize bs (decI (v : Int)) = TV at *
      generalize bs (Lib.decDigits a) = DA at *
      generalize bs (Lib.decDigits b) = DB at *
      have deq : (FN == FN) = true := (bytes_beq FN FN).2 rfl
      go_wp2_with fail
      refine (HDA.out _).mono ?_
      rintro e w5 ⟨rfl, hb⟩
      have B5 := Lib.hid (below_trans BR.out hb)
      have X5 := Lib.hid (XR.out.below hb)
      have S5 := Lib.hid (SR.out.below hb)
      clear hb
      go_wp2_with fail
      refine (HDB.out _).mono ?_
      rintro e w6 ⟨rfl, hb⟩
      have B6 := Lib.hid (below_trans B5.out hb)
      have X6 := Lib.hid (X5.out.below hb)
      have S6 := Lib.hid (S5.out.below hb)
      clear hb
      go_wp2_with fail
      refine (HE.out _ B6.out).mono ?_
      rintro e w7 ⟨rfl, hb⟩
      have B7 := Lib.hid (below_trans B6.out hb)
      have X7 := Lib.hid (X6.out.below hb)
      have S7 := Lib.hid (S6.out.below hb)
      clear hb
      go_wp2_with fail
      refine (HKO.out _).mono ?_
      rintro e w8 ⟨rfl, hb⟩
      have B8 := Lib.hid (below_trans B7.out hb)
      have X8 := Lib.hid (X7.out.below hb)
      have S8 := Lib.hid (S7.out.below hb)
      clear hb
      go_wp2_with fail
      refine (HFR.out _ S8.out).mono ?_
      rintro e w9 ⟨rfl, hb⟩
      have B9 := Lib.hid (below_trans B8.out hb)
      have X9 := Lib.hid (X8.out.below hb)
      clear hb
      go_wp2_with fail
      refine (HDV2.out _).mono ?_
      rintro e w10 ⟨rfl, hb⟩
      have B10 := Lib.hid (below_trans B9.out hb)
      have X10 := Lib.hid (X9.out.below hb)
      clear hb
      go_wp2_with fail
      refine (HKS.out _ X10.out).mono ?_
      rintro e w11 ⟨rfl, hb⟩
      have B11 := Lib.hid (below_trans B10.out hb)
      clear hb
      go_wp2_with fail
      refine (HKE.out _).mono ?_
      rintro e w12 ⟨rfl, hb⟩
      have B12 := Lib.hid (below_trans B11.out hb)
      clear hb
      go_wp2_with fail
      go_ret
      exact ⟨rfl, B12.out⟩
end Go.Proofs.YtgjllminidlolaaGreatDoor
/- How arguments that are slices of three-integer structs are read. -/
set_option linter.unusedVariables false
namespace Go.Proofs.YtgjllminidlolaaGreatDoor
open Go.ChangeShapes Go.WideShapes Go.ChangeAt Go.RowKit Go.Deep

theorem own : ownKnob Tryz.prog.godebug = none := by kernel_rfl
theorem laidOut : laidOutB Tryz.prog = true := by kernel_rfl

theorem addr_add (b off i : Nat) : (⟨b, off, none⟩ : Addr).add i = ⟨b, off + i, none⟩ := by
  unfold Addr.add
  split
  · rename_i h; subst h; rfl
  · rfl

/-- The cells of a struct of three integers. -/
theorem open_cells3 {H : Type} {enc : TypeId × Value → H} {P : Program} {w : World} {base : Nat} {spare : Nat → Bool} {held : Bool} {e : TypeId} {f0 f1 f2 : Field} {n : Nat} {cs : List Value} {x : DataW H × List MemPlace}
    (he : P.underlying e = some (.struct #[f0, f1, f2])) (hone : oneCellFields P #[f0, f1, f2] = true) (hC : P.cellsOf e = 3)
    (i0 : P.underlying f0.type = some (.int .i64)) (i1 : P.underlying f1.type = some (.int .i64)) (i2 : P.underlying f2.type = some (.int .i64))
    (h : DataW.trod enc P w base spare held n e cs = some x) : ∃ p : T3, cs = enc3 p ∧ (Lit.int .i64 p.a).wf = true ∧ (Lit.int .i64 p.b).wf = true ∧ (Lit.int .i64 p.c).wf = true := by
  obtain ⟨xs, m, _, _, hl, hxl, hf⟩ := DataW.trod_struct he h
  obtain ⟨o0, k0⟩ := hone_of hone 0 f0 rfl
  obtain ⟨o1, k1⟩ := hone_of hone 1 f1 rfl
  obtain ⟨o2, k2⟩ := hone_of hone 2 f2 rfl
  rw [hC] at hl
  match cs, hl, xs, hxl with
  | [c0, c1, c2], _, [y0, y1, y2], _ =>
    have h0 := hf 0 f0 rfl
    have h1 := hf 1 f1 rfl
    have h2 := hf 2 f2 rfl
    rw [o0, k0] at h0
    rw [o1, k1] at h1
    rw [o2, k2] at h2
    obtain ⟨a, ha, _, wa⟩ := DataW.trod_int i0 (x := y0) (cs := [c0]) h0
    obtain ⟨b, hb, _, wb⟩ := DataW.trod_int i1 (x := y1) (cs := [c1]) h1
    obtain ⟨c, hc, _, wc⟩ := DataW.trod_int i2 (x := y2) (cs := [c2]) h2
    injection ha with ha
    injection hb with hb
    injection hc with hc
    subst ha hb hc
    exact ⟨⟨a, b, c⟩, rfl, wa, wb, wc⟩

/-- A slice of structs of three integers reads as a list. -/
theorem open_slice3 {H : Type} {enc : TypeId × Value → H} {P : Program} {w : World} {base : Nat} {spare : Nat → Bool} {held : Bool} {t e : TypeId} {f0 f1 f2 : Field} {A : Option Addr} {len cap : Nat} {d : DataW H} {ps : List MemPlace}
    (ht : P.underlying t = some (.slice e)) (he : P.underlying e = some (.struct #[f0, f1, f2])) (hone : oneCellFields P #[f0, f1, f2] = true) (hC : P.cellsOf e = 3)
    (i0 : P.underlying f0.type = some (.int .i64)) (i1 : P.underlying f1.type = some (.int .i64)) (i2 : P.underlying f2.type = some (.int .i64))
    (h : DataW.Trod enc P w base spare held t (.slice A len cap) d ps) :
    ∃ xs : List T3, SlE 3 enc3 w A len xs ∧ len ≤ 9223372036854775807 ∧ ∀ p ∈ xs, (Lit.int .i64 p.a).wf = true ∧ (Lit.int .i64 p.b).wf = true ∧ (Lit.int .i64 p.c).wf = true := by
  obtain ⟨fuel, hf⟩ := h
  rcases open_slice ht hf with ⟨hcs, _⟩ | ⟨a, l, c, m, n, D, Pl, hcs, hb, hl, hm, hmm, hx, hi⟩
  · simp [Value.cells] at hcs
    obtain ⟨rfl, rfl, rfl⟩ := hcs
    exact ⟨[], ⟨rfl, fun h => absurd h (by omega)⟩, by omega, fun p hp => by simp at hp⟩
  · simp only [Value.cells, List.cons.injEq, Value.slice.injEq, and_true] at hcs
    obtain ⟨rfl, rfl, rfl⟩ := hcs
    have hlm : len ≤ m := by rw [hmm]; split <;> omega
    have key : ∀ i, i < len → ∃ p : T3, (∀ j u, (enc3 p)[j]? = some u → w.cell? (a.add (i * 3 + j)) = some u) ∧ (Lit.int .i64 p.a).wf = true ∧ (Lit.int .i64 p.b).wf = true ∧ (Lit.int .i64 p.c).wf = true := by
      intro i hil
      obtain ⟨cs', hcs', htr⟩ := hi i (by omega)
      obtain ⟨p, rfl, wf⟩ := open_cells3 he hone hC i0 i1 i2 htr
      rw [hC] at hcs'
      obtain ⟨_, _, hat⟩ := World.cells?_some hcs'
      refine ⟨p, fun j u hu => ?_, wf⟩
      have hj : j < 3 := by
        rcases Nat.lt_or_ge j 3 with h | h
        · exact h
        · rw [List.getElem?_eq_none (by rw [enc3_len]; exact h)] at hu; cases hu
      have := hat j hj
      rw [hu] at this
      rw [← this]
      unfold Addr.add
      by_cases h1 : i * 3 = 0
      · simp [h1]
      · by_cases h2 : j = 0
        · subst h2; simp
        · have h3 : i * 3 + j ≠ 0 := by omega
          simp [h1, h2, Nat.add_assoc]
    let f : Nat → T3 := fun i => if h : i < len then (key i h).choose else default
    have hfs : ∀ i (h : i < len), f i = (key i h).choose := fun i h => by simp [f, h]
    refine ⟨(List.range len).map f, ⟨by simp, fun hn => ?_⟩, by unfold maxLen at hm; omega, ?_⟩
    · have k0 := (key 0 hn).choose_spec.1 0 _ rfl
      obtain ⟨b, off, spot⟩ := a
      have hspot : spot = none := by have := World.cell?_spot k0; simpa [Addr.add] using this
      subst hspot
      refine ⟨b, off, rfl, by have := World.block_lt_of_cell? w _ k0; simpa [Addr.add] using this, fun j p hp i v hv => ?_⟩
      have hj : j < len := by
        rcases Nat.lt_or_ge j len with h | h
        · exact h
        · rw [List.getElem?_eq_none (by simpa using h)] at hp; cases hp
      simp only [List.getElem?_map, List.getElem?_range hj, Option.map_some, Option.some.injEq] at hp
      rw [hfs j hj] at hp
      subst hp
      have := (key j hj).choose_spec.1 i v hv
      rwa [addr_add] at this
    · intro p hp
      simp only [List.mem_map, List.mem_range] at hp
      obtain ⟨i, hil, rfl⟩ := hp
      rw [hfs i hil]
      exact (key i hil).choose_spec.2

/-- A struct of three integers that is handed by value. -/
theorem open_val3 {H : Type} {enc : TypeId × Value → H} {P : Program} {w W : World} {base b0 : Nat} {r : Reach} {spare : Nat → Bool} {held : Bool} {e : TypeId} {f0 f1 f2 : Field} {v : Value} {d : DataW H} {ps : List MemPlace}
    (he : P.underlying e = some (.struct #[f0, f1, f2])) (hone : oneCellFields P #[f0, f1, f2] = true) (hC : P.cellsOf e = 3)
    (i0 : P.underlying f0.type = some (.int .i64)) (i1 : P.underlying f1.type = some (.int .i64)) (i2 : P.underlying f2.type = some (.int .i64))
    (hv : Value.okWide P W r b0 e v) (h : DataW.Trod enc P w base spare held e v d ps) :
    ∃ p : T3, v = .agg #[.int .i64 p.a, .int .i64 p.b, .int .i64 p.c] ∧ (Lit.int .i64 p.a).wf = true ∧ (Lit.int .i64 p.b).wf = true ∧ (Lit.int .i64 p.c).wf = true := by
  obtain ⟨cs, rfl, hsz⟩ := okWide_struct he hv
  obtain ⟨fuel, hf⟩ := h
  have hc : (Value.agg cs).cells = cs := rfl
  rw [hc] at hf
  obtain ⟨p, hp, wf⟩ := open_cells3 he hone hC i0 i1 i2 hf
  refine ⟨p, ?_, wf⟩
  congr 1
  apply Array.toList_inj.1
  rw [hp]
  rfl
end Go.Proofs.YtgjllminidlolaaGreatDoor
/- How an argument that is a slice of bytes is read. -/
set_option linter.unusedVariables false
namespace Go.Proofs.YtgjllminidlolaaGreatDoor
open Go.ChangeShapes Go.WideShapes Go.ChangeAt Go.RowKit Go.Deep
/-- A slice of bytes reads as a list. -/
theorem open_sliceU {H : Type} {enc : TypeId × Value → H} {P : Program} {w : World} {base : Nat} {spare : Nat → Bool} {held : Bool} {t e : TypeId} {A : Option Addr} {len cap : Nat} {d : DataW H} {ps : List MemPlace}
    (ht : P.underlying t = some (.slice e)) (he : P.underlying e = some (.int .u8)) (hC : P.cellsOf e = 1)
    (h : DataW.Trod enc P w base spare held t (.slice A len cap) d ps) : ∃ xs : List Int, SlE 1 encU w A len xs ∧ Bytes xs ∧ len ≤ cap := by
  obtain ⟨fuel, hf⟩ := h
  rcases open_ints ht he hC hf with ⟨hcs, _⟩ | ⟨a, l, c, zs, hcs, hb, hl, hm, hz, _, hi, hw⟩
  · simp [Value.cells] at hcs
    obtain ⟨rfl, rfl, rfl⟩ := hcs
    exact ⟨[], ⟨rfl, fun h => absurd h (by omega)⟩, fun v hv => (by cases hv), by omega⟩
  · simp only [Value.cells, List.cons.injEq, Value.slice.injEq, and_true] at hcs
    obtain ⟨rfl, rfl, rfl⟩ := hcs
    have hlz : len ≤ zs.length := by rw [hz]; split <;> omega
    refine ⟨zs.take len, ⟨by rw [List.length_take]; omega, fun hn => ?_⟩, fun v hv => ?_, hl⟩
    · have k0 := hi 0 (by omega)
      obtain ⟨b, off, spot⟩ := a
      have hspot : spot = none := by have := World.cell?_spot k0; simpa [Addr.add] using this
      subst hspot
      refine ⟨b, off, rfl, by have := World.block_lt_of_cell? w _ k0; simpa [Addr.add] using this, fun j p hp i v hv => ?_⟩
      have hj : j < len := by
        rcases Nat.lt_or_ge j len with h | h
        · exact h
        · rw [List.getElem?_eq_none (by rw [List.length_take]; omega)] at hp; cases hp
      have h0 : i = 0 := by
        rcases i with _ | i
        · rfl
        · simp [encU] at hv
      subst h0
      simp only [encU, List.getElem?_cons_zero, Option.some.injEq] at hv
      subst hv
      have := hi j (by omega)
      rw [addr_add] at this
      have e0 : off + (j * 1 + 0) = off + j := by omega
      rw [e0, this]
      rw [List.getElem?_take, if_pos hj] at hp
      rw [List.getD_eq_getElem?_getD, hp]
      rfl
    · have := hw v (List.mem_of_mem_take hv)
      simp [Lit.wf, IntKind.min, IntKind.max, IntKind.bits, IntKind.signed] at this
      omega
end Go.Proofs.YtgjllminidlolaaGreatDoor
/- What the cards of this seat share: what is known of the library's variables when the call begins. -/
set_option linter.unusedVariables false
namespace Go.Proofs.YtgjllminidlolaaGreatDoor
open Go.ChangeShapes Go.WideShapes Go.ChangeAt Go.RowKit

set_option maxRecDepth 100000 in
theorem env_of {W : World} (h : W.ShapedOpen Tryz.prog) (ht : Lib.TabIs Tryz.prog W "internal/strconv.uint64pow10" .u64 Lib.pow10Tab) : Env W := by
  obtain ⟨m, hm⟩ := cell_of_shapedOpen_int (P := Tryz.prog) (w := W) (g := 0) (t := 3) (zero := #[.int .i64 0]) (k := .i64) h (of_decide_eq_true (by kernel_rfl)) (by kernel_rfl) rfl (by kernel_rfl) (by kernel_rfl) Tryz.underlying3
  exact ⟨World.block_lt_of_cell? W _ hm, ⟨m, hm⟩, ht⟩
theorem tab_of {W : World} (h : laidMetH Tryz.prog Rows.fnExecuteSeatsRow.laid W) : Lib.TabIs Tryz.prog W "internal/strconv.uint64pow10" .u64 Lib.pow10Tab := by
  rw [MakeChecks.laidMetH_plain _ _ _ (by kernel_rfl)] at h
  exact Lib.tabIs_of_head (g := 3) (t := 264) (e := 222) (n := 20) (by kernel_rfl) (by kernel_rfl) Tryz.underlying264 Tryz.underlying222 (by kernel_rfl) (by kernel_rfl) (laidMet.tail (laidMet.tail h))
end Go.Proofs.YtgjllminidlolaaGreatDoor
