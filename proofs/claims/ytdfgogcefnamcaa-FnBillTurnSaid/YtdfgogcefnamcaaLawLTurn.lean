/- Walk of FnBillTurn. -/
import Derived.Test.YtdfgogcefnamcaaDrawC
import Derived.Test.YtdfgogcefnamcaaBPlain
import Derived.Test.YtdfgogcefnamcaaWalkF
import Derived.Test.YtdfgogcefnamcaaSameP
import Derived.Test.YtdfgogcefnamcaaSameI
import Derived.Test.YtdfgogcefnamcaaBackOf
set_option linter.unusedVariables false
namespace Go.Proofs.Ytdfgogcefnamcaa
open Go.RowKit

set_option maxRecDepth 20000 in
set_option maxHeartbeats 6400000 in
theorem lawFnBillTurn_walk (A0 : Option Addr) (len0 cap0 : Nat) (xs0 : List Int) (w : World) (h0 : SlE 1 encU w A0 len0 xs0) (hb0 : Bytes xs0) (hc0 : len0 ≤ cap0) :
    Calls Try.prog 6 #[.slice A0 len0 cap0] w (Only (.bool true) w) := by
  have H0 := Lib.hid h0
  have HB0 := Lib.hid hb0
  clear h0 hb0
  by_cases hbig : (len0 : Int) ≤ 1048576
  rotate_left
  · go_enter Try.func6, Try.ntmps6
    go_wp2_with fail
    go_ret
    exact ⟨rfl, Below.refl _ _⟩
  go_enter Try.func6, Try.ntmps6
  go_wp2_with fail
  refine (drawBillTurn_any A0 len0 cap0 xs0 w H0.out HB0.out (by omega) hc0).mono ?_
  rintro e w1 ⟨n, v, xs, rfl, n0, n1, hl, hown, hb⟩
  clear H0 HB0
  obtain ⟨n, rfl⟩ : ∃ i : Nat, n = i := ⟨n.toNat, by omega⟩
  obtain ⟨A, c, rfl, -, hlc⟩ := hown.slc enc3_len rfl
  generalize hlen : xs.length = len at *
  have HL := Lib.hid hlen
  have S1 := Lib.hid (sl_of_own_at enc3_len hown hlen)
  have B1 := Lib.hid hb
  clear hown hb hlen
  by_cases hok : BillOk n xs
  rotate_left
  · have HN := Lib.hid hok
    clear hok
    go_wp2_with fail
    refine (implBillTurn_no A n len c xs w1 S1.out (by omega) HN.out).mono ?_
    rintro e w2 ⟨v2, rfl, hown, hb⟩
    obtain ⟨A2, c2, rfl, -, hc2⟩ := hown.slc enc3_len (n := 0) rfl
    have S2 := Lib.hid (S1.out.below hb)
    have B2 := Lib.hid (below_trans B1.out hb)
    have E2 := Lib.hid (sl_of_own_at enc3_len hown rfl)
    clear hb S1 B1 hown
    go_wp2_with fail
    refine (specBillTurn_no A n len c xs w2 S2.out (by omega) HN.out).mono ?_
    rintro e w3 ⟨v3, rfl, hown, hb⟩
    obtain ⟨A3, c3, rfl, -, hc3⟩ := hown.slc enc3_len (n := 0) rfl
    have E3 := Lib.hid (E2.out.below hb)
    have B3 := Lib.hid (below_trans B2.out hb)
    have F3 := Lib.hid (sl_of_own_at enc3_len hown rfl)
    clear hb S2 E2 B2 hown
    go_wp2_with fail
    refine (sameParcels_yes A2 A3 0 c2 c3 [] w3 E3.out F3.out (by omega)).mono ?_
    rintro e w4 ⟨rfl, hb⟩
    have E4 := Lib.hid (E3.out.below hb)
    have F4 := Lib.hid (F3.out.below hb)
    have B4 := Lib.hid (below_trans B3.out hb)
    clear hb E3 F3 B3
    go_wp2_with fail
    refine (sameParcels_yes A2 A3 0 c2 c3 [] w4 E4.out F4.out (by omega)).mono ?_
    rintro e w5 ⟨rfl, hb⟩
    have E5 := Lib.hid (E4.out.below hb)
    have F5 := Lib.hid (F4.out.below hb)
    have B5 := Lib.hid (below_trans B4.out hb)
    clear hb E4 F4 B4
    go_wp2_with fail
    go_ret
    exact ⟨rfl, B5.out⟩
  have HOK := Lib.hid hok
  have HT : Hid (BillOk n (turned n xs)) := bill_turned hok
  have HTT := Lib.hid (turned_turned n xs)
  have HTL := Lib.hid (show (turned n xs).length = len by rw [turned_len, HL.out])
  have HLT := Lib.hid (loads_turned n xs)
  have HLL := Lib.hid (loads_len xs n)
  have HLR := Lib.hid (show (loads xs n).reverse.length = n by rw [List.length_reverse, loads_len])
  clear hok
  go_wp2_with fail
  refine (implBillTurn_yes A n len c xs w1 S1.out (by omega) HOK.out).mono ?_
  rintro e w2 ⟨v2, rfl, hown, hb⟩
  obtain ⟨A2, c2, rfl, -, hc2⟩ := hown.slc enc3_len (n := len) HTL.out
  have S2 := Lib.hid (S1.out.below hb)
  have B2 := Lib.hid (below_trans B1.out hb)
  have E2 := Lib.hid (sl_of_own_at enc3_len hown HTL.out)
  clear hb S1 B1 hown
  go_wp2_with fail
  refine (specBillTurn_yes A n len c xs w2 S2.out (by omega) HOK.out).mono ?_
  rintro e w3 ⟨v3, rfl, hown, hb⟩
  obtain ⟨A3, c3, rfl, -, hc3⟩ := hown.slc enc3_len (n := len) HTL.out
  have S3 := Lib.hid (S2.out.below hb)
  have E3 := Lib.hid (E2.out.below hb)
  have B3 := Lib.hid (below_trans B2.out hb)
  have F3 := Lib.hid (sl_of_own_at enc3_len hown HTL.out)
  clear hb S2 E2 B2 hown
  go_wp2_with fail
  refine (sameParcels_yes A2 A3 len c2 c3 _ w3 E3.out F3.out (by omega)).mono ?_
  rintro e w4 ⟨rfl, hb⟩
  have S4 := Lib.hid (S3.out.below hb)
  have E4 := Lib.hid (E3.out.below hb)
  have B4 := Lib.hid (below_trans B3.out hb)
  clear hb S3 E3 F3 B3
  have HTU := Lib.hid (fun (W : World) (h : SlE 3 enc3 W A2 len (turned n xs)) => implBillTurn_yes A2 n len c2 (turned n xs) W h (by omega) HT.out)
  rw [HTT.out] at HTU
  go_wp2_with fail
  refine (HTU.out w4 E4.out).mono ?_
  rintro e w5 ⟨v5, rfl, hown, hb⟩
  obtain ⟨A5, c5, rfl, -, hc5⟩ := hown.slc enc3_len (n := len) HL.out
  have S5 := Lib.hid (S4.out.below hb)
  have E5 := Lib.hid (E4.out.below hb)
  have B5 := Lib.hid (below_trans B4.out hb)
  have X5 := Lib.hid (sl_of_own_at enc3_len hown HL.out)
  clear hb S4 E4 B4 hown
  go_wp2_with fail
  refine (implBillLoads_yes A n len c xs w5 S5.out (by omega) HOK.out).mono ?_
  rintro e w6 ⟨v6, rfl, hown, hb⟩
  obtain ⟨A6, c6, rfl, -, hc6⟩ := hown.slc encI_len (n := n) HLL.out
  have S6 := Lib.hid (S5.out.below hb)
  have E6 := Lib.hid (E5.out.below hb)
  have X6 := Lib.hid (X5.out.below hb)
  have B6 := Lib.hid (below_trans B5.out hb)
  have L6 := Lib.hid (sl_of_own_at encI_len hown HLL.out)
  clear hb S5 E5 X5 B5 hown
  have HLO := Lib.hid (fun (W : World) (h : SlE 3 enc3 W A2 len (turned n xs)) => implBillLoads_yes A2 n len c2 (turned n xs) W h (by omega) HT.out)
  rw [HLT.out] at HLO
  go_wp2_with fail
  refine (HLO.out w6 E6.out).mono ?_
  rintro e w7 ⟨v7, rfl, hown, hb⟩
  obtain ⟨A7, c7, rfl, -, hc7⟩ := hown.slc encI_len (n := n) HLR.out
  have S7 := Lib.hid (S6.out.below hb)
  have X7 := Lib.hid (X6.out.below hb)
  have L7 := Lib.hid (L6.out.below hb)
  have B7 := Lib.hid (below_trans B6.out hb)
  have M7 := Lib.hid (sl_of_own_at encI_len hown HLR.out)
  clear hb S6 E6 X6 L6 B6 hown
  go_wp2_with fail
  refine (sameParcels_yes A5 A len c5 c _ w7 X7.out S7.out (by omega)).mono ?_
  rintro e w8 ⟨rfl, hb⟩
  have L8 := Lib.hid (L7.out.below hb)
  have M8 := Lib.hid (M7.out.below hb)
  have B8 := Lib.hid (below_trans B7.out hb)
  clear hb S7 X7 L7 M7 B7
  go_wp2_with fail
  refine (backOf_any A6 n c6 (loads xs n) w8 L8.out (by omega)).mono ?_
  rintro e w9 ⟨v9, rfl, hown, hb⟩
  obtain ⟨A9, c9, rfl, -, hc9⟩ := hown.slc encI_len (n := n) HLR.out
  have M9 := Lib.hid (M8.out.below hb)
  have B9 := Lib.hid (below_trans B8.out hb)
  have R9 := Lib.hid (sl_of_own_at encI_len hown HLR.out)
  clear hb L8 M8 B8 hown
  go_wp2_with fail
  refine (sameInts_yes A7 A9 n c7 c9 _ w9 M9.out R9.out (by omega)).mono ?_
  rintro e w10 ⟨rfl, hb⟩
  have M10 := Lib.hid (M9.out.below hb)
  have R10 := Lib.hid (R9.out.below hb)
  have B10 := Lib.hid (below_trans B9.out hb)
  clear hb M9 R9 B9
  go_wp2_with fail
  go_ret
  exact ⟨rfl, B10.out⟩
end Go.Proofs.Ytdfgogcefnamcaa
