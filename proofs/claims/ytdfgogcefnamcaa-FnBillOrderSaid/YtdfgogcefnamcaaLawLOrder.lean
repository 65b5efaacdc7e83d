/- Walk of FnBillOrder. -/
import Derived.Test.YtdfgogcefnamcaaDrawC
import Derived.Test.YtdfgogcefnamcaaBPlain
import Derived.Test.YtdfgogcefnamcaaWalkD
import Derived.Test.YtdfgogcefnamcaaWalkF
import Derived.Test.YtdfgogcefnamcaaOrdV
import Derived.Test.YtdfgogcefnamcaaSameP
import Derived.Test.YtdfgogcefnamcaaSameI
set_option linter.unusedVariables false
namespace Go.Proofs.Ytdfgogcefnamcaa
open Go.RowKit

set_option maxRecDepth 20000 in
set_option maxHeartbeats 6400000 in
theorem lawFnBillOrder_walk (A0 : Option Addr) (len0 cap0 : Nat) (xs0 : List Int) (w : World) (h0 : SlE 1 encU w A0 len0 xs0) (hb0 : Bytes xs0) (hc0 : len0 ≤ cap0) :
    Calls Try.prog 14 #[.slice A0 len0 cap0] w (Only (.bool true) w) := by
  have H0 := Lib.hid h0
  have HB0 := Lib.hid hb0
  clear h0 hb0
  by_cases hbig : (len0 : Int) ≤ 1048576
  rotate_left
  · go_enter Try.func14, Try.ntmps14
    go_wp2_with fail
    go_ret
    exact ⟨rfl, Below.refl _ _⟩
  go_enter Try.func14, Try.ntmps14
  go_wp2_with fail
  refine (drawBillOrder_any A0 len0 cap0 xs0 w H0.out HB0.out (by omega) hc0).mono ?_
  rintro e w1 ⟨n, v, xs, rfl, n0, n1, hl, hown, hb⟩
  clear H0 HB0
  obtain ⟨n, rfl⟩ : ∃ i : Nat, n = i := ⟨n.toNat, by omega⟩
  obtain ⟨A, c, rfl, -, hlc⟩ := hown.slc enc3_len rfl
  generalize hlen : xs.length = len at *
  have HL := Lib.hid hlen
  have S1 := Lib.hid (sl_of_own_at enc3_len hown hlen)
  have B1 := Lib.hid hb
  clear hown hb hlen
  by_cases hok : BillOk n xs
  rotate_left
  · have HN := Lib.hid hok
    clear hok
    go_wp2_with fail
    refine (implBillOrder_any A n len c xs [] false w1 S1.out (by omega) (.inr ⟨rfl, HN.out, rfl⟩)).mono ?_
    rintro e w2 ⟨v2, rfl, hown, hb⟩
    obtain ⟨A2, c2, rfl, -, hc2⟩ := hown.slc enc3_len (n := 0) rfl
    have S2 := Lib.hid (S1.out.below hb)
    have B2 := Lib.hid (below_trans B1.out hb)
    have E2 := Lib.hid (sl_of_own_at enc3_len hown rfl)
    clear hb S1 B1 hown
    go_wp2_with fail
    refine (specBillOrder_any A n len c xs [] false w2 S2.out (by omega) (.inr ⟨rfl, HN.out, rfl⟩)).mono ?_
    rintro e w3 ⟨v3, rfl, hown, hb⟩
    obtain ⟨A3, c3, rfl, -, hc3⟩ := hown.slc enc3_len (n := 0) rfl
    have E3 := Lib.hid (E2.out.below hb)
    have B3 := Lib.hid (below_trans B2.out hb)
    have F3 := Lib.hid (sl_of_own_at enc3_len hown rfl)
    clear hb S2 E2 B2 hown
    go_wp2_with fail
    refine (sameParcels_yes A2 A3 0 c2 c3 [] w3 E3.out F3.out (by omega)).mono ?_
    rintro e w4 ⟨rfl, hb⟩
    have E4 := Lib.hid (E3.out.below hb)
    have F4 := Lib.hid (F3.out.below hb)
    have B4 := Lib.hid (below_trans B3.out hb)
    clear hb E3 F3 B3
    go_wp2_with fail
    refine (sameParcels_yes A2 A3 0 c2 c3 [] w4 E4.out F4.out (by omega)).mono ?_
    rintro e w5 ⟨rfl, hb⟩
    have E5 := Lib.hid (E4.out.below hb)
    have F5 := Lib.hid (F4.out.below hb)
    have B5 := Lib.hid (below_trans B4.out hb)
    clear hb E4 F4 B4
    go_wp2_with fail
    go_ret
    exact ⟨rfl, B5.out⟩
  have HOK := Lib.hid hok
  have hpm := isort_perm (less := lessP) xs
  have HOK2 : Hid (BillOk n (isort lessP xs)) := bill_perm hok hpm
  have HYL := Lib.hid (show (isort lessP xs).length = len by rw [isort_len, HL.out])
  have HLP : Hid (loads (isort lessP xs) n = loads xs n) := by
    unfold loads
    exact List.map_congr_left fun i _ => load_perm hpm i
  have hpp := pound_perm hpm
  have HIS : Hid (OrderIs n xs (isort lessP xs) true) := .inl ⟨rfl, hok, rfl⟩
  have HIS2 : Hid (OrderIs n (isort lessP xs) (isort lessP xs) true) := .inl ⟨rfl, HOK2.out, (order_twice xs).symm⟩
  have HLL := Lib.hid (loads_len xs n)
  have HP2 := Lib.hid (fun (W : World) (h : SlE 3 enc3 W A len xs) => implBillPound_yes A n len c xs W h (by omega) HOK.out)
  have HP1 := Lib.hid (fun (A' : Option Addr) (c' : Nat) (W : World) (h : SlE 3 enc3 W A' len (isort lessP xs)) => implBillPound_yes A' n len c' _ W h (by omega) HOK2.out)
  rw [hpp] at HP1
  have HLO := Lib.hid (fun (A' : Option Addr) (c' : Nat) (W : World) (h : SlE 3 enc3 W A' len (isort lessP xs)) => implBillLoads_yes A' n len c' _ W h (by omega) HOK2.out)
  rw [HLP.out] at HLO
  clear hok hpm hpp
  generalize isort lessP xs = ys at *
  generalize pound xs = P0 at *
  go_wp2_with fail
  refine (implBillOrder_any A n len c xs ys true w1 S1.out (by omega) HIS.out).mono ?_
  rintro e w2 ⟨v2, rfl, hown, hb⟩
  obtain ⟨A2, c2, rfl, -, hc2⟩ := hown.slc enc3_len (n := len) HYL.out
  have S2 := Lib.hid (S1.out.below hb)
  have B2 := Lib.hid (below_trans B1.out hb)
  have E2 := Lib.hid (sl_of_own_at enc3_len hown HYL.out)
  clear hb S1 B1 hown
  go_wp2_with fail
  refine (specBillOrder_any A n len c xs ys true w2 S2.out (by omega) HIS.out).mono ?_
  rintro e w3 ⟨v3, rfl, hown, hb⟩
  obtain ⟨A3, c3, rfl, -, hc3⟩ := hown.slc enc3_len (n := len) HYL.out
  have S3 := Lib.hid (S2.out.below hb)
  have E3 := Lib.hid (E2.out.below hb)
  have B3 := Lib.hid (below_trans B2.out hb)
  have F3 := Lib.hid (sl_of_own_at enc3_len hown HYL.out)
  clear hb S2 E2 B2 hown
  go_wp2_with fail
  refine (sameParcels_yes A2 A3 len c2 c3 ys w3 E3.out F3.out (by omega)).mono ?_
  rintro e w4 ⟨rfl, hb⟩
  have S4 := Lib.hid (S3.out.below hb)
  have E4 := Lib.hid (E3.out.below hb)
  have B4 := Lib.hid (below_trans B3.out hb)
  clear hb S3 E3 F3 B3
  go_wp2_with fail
  refine (implBillOrder_any A2 n len c2 ys ys true w4 E4.out (by omega) HIS2.out).mono ?_
  rintro e w5 ⟨v5, rfl, hown, hb⟩
  obtain ⟨A5, c5, rfl, -, hc5⟩ := hown.slc enc3_len (n := len) HYL.out
  have S5 := Lib.hid (S4.out.below hb)
  have E5 := Lib.hid (E4.out.below hb)
  have B5 := Lib.hid (below_trans B4.out hb)
  have X5 := Lib.hid (sl_of_own_at enc3_len hown HYL.out)
  clear hb S4 E4 B4 hown
  go_wp2_with fail
  refine (implBillLoads_yes A n len c xs w5 S5.out (by omega) HOK.out).mono ?_
  rintro e w6 ⟨v6, rfl, hown, hb⟩
  obtain ⟨A6, c6, rfl, -, hc6⟩ := hown.slc encI_len (n := n) HLL.out
  have S6 := Lib.hid (S5.out.below hb)
  have E6 := Lib.hid (E5.out.below hb)
  have X6 := Lib.hid (X5.out.below hb)
  have B6 := Lib.hid (below_trans B5.out hb)
  have L6 := Lib.hid (sl_of_own_at encI_len hown HLL.out)
  clear hb S5 E5 X5 B5 hown
  go_wp2_with fail
  refine (HLO.out A2 c2 w6 E6.out).mono ?_
  rintro e w7 ⟨v7, rfl, hown, hb⟩
  obtain ⟨A7, c7, rfl, -, hc7⟩ := hown.slc encI_len (n := n) HLL.out
  have S7 := Lib.hid (S6.out.below hb)
  have E7 := Lib.hid (E6.out.below hb)
  have X7 := Lib.hid (X6.out.below hb)
  have L7 := Lib.hid (L6.out.below hb)
  have B7 := Lib.hid (below_trans B6.out hb)
  have M7 := Lib.hid (sl_of_own_at encI_len hown HLL.out)
  clear hb S6 E6 X6 L6 B6 hown
  go_wp2_with fail
  refine (sameParcels_yes A5 A2 len c5 c2 ys w7 X7.out E7.out (by omega)).mono ?_
  rintro e w8 ⟨rfl, hb⟩
  have S8 := Lib.hid (S7.out.below hb)
  have E8 := Lib.hid (E7.out.below hb)
  have L8 := Lib.hid (L7.out.below hb)
  have M8 := Lib.hid (M7.out.below hb)
  have B8 := Lib.hid (below_trans B7.out hb)
  clear hb S7 E7 X7 L7 M7 B7
  go_wp2_with fail
  refine (sameInts_yes A6 A7 n c6 c7 _ w8 L8.out M8.out (by omega)).mono ?_
  rintro e w9 ⟨rfl, hb⟩
  have S9 := Lib.hid (S8.out.below hb)
  have E9 := Lib.hid (E8.out.below hb)
  have B9 := Lib.hid (below_trans B8.out hb)
  clear hb S8 E8 L8 M8 B8
  go_wp2_with fail
  refine (HP1.out A2 c2 w9 E9.out).mono ?_
  rintro e w10 ⟨rfl, hb⟩
  have S10 := Lib.hid (S9.out.below hb)
  have E10 := Lib.hid (E9.out.below hb)
  have B10 := Lib.hid (below_trans B9.out hb)
  clear hb S9 E9 B9
  go_wp2_with fail
  refine (HP2.out w10 S10.out).mono ?_
  rintro e w11 ⟨rfl, hb⟩
  have S11 := Lib.hid (S10.out.below hb)
  have E11 := Lib.hid (E10.out.below hb)
  have B11 := Lib.hid (below_trans B10.out hb)
  clear hb S10 E10 B10
  go_wp2_with fail
  go_ret
  exact ⟨by simp, B11.out⟩
end Go.Proofs.Ytdfgogcefnamcaa
