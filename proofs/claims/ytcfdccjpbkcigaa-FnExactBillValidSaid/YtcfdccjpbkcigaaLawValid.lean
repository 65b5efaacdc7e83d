/- Walk of FnExactBillValid. -/
import Derived.Test.YtcfdccjpbkcigaaWalkC
import Derived.Test.YtcfdccjpbkcigaaEx
set_option linter.unusedVariables false
namespace Go.Proofs.Ytcfdccjpbkcigaa
open Go.RowKit

set_option maxHeartbeats 800000 in
theorem lawValid_walk (n : Int) (A : Option Addr) (len cap : Nat) (xs : List T3) (w : World) (h : SlE 3 enc3 w A len xs) (hm : len ≤ 9223372036854775807) :
    Calls Try.prog 3 #[.int .i64 n, .slice A len cap] w (Only (.bool true) w) := by
  have H := Lib.hid h
  clear h
  by_cases hbig : len ≤ 1048576
  · obtain ⟨b, hb⟩ : ∃ b : Bool, (b = true ↔ BillOk n xs) := by
      by_cases hP : BillOk n xs
      · exact ⟨true, by simp [hP]⟩
      · exact ⟨false, by simp [hP]⟩
    have HS : Hid (∀ (A' : Option Addr) (c : Nat) (w' : World), SlE 3 enc3 w' A' len xs → Calls Try.prog 16 #[.int .i64 n, .slice A' len c] w' (Only (.bool b) w')) :=
      fun A' c w' h' => (specBillValid_any A' n len c xs w' h' hbig).mono fun e w2 ⟨b', he, hb', hw⟩ => ⟨by rw [he]; exact ret_bool (Bool.eq_iff_iff.2 (hb'.trans hb.symm)), hw⟩
    have HI : Hid (∀ (A' : Option Addr) (c : Nat) (w' : World), SlE 3 enc3 w' A' len xs → Calls Try.prog 18 #[.int .i64 n, .slice A' len c] w' (Only (.bool b) w')) :=
      fun A' c w' h' => (implBillValid_any A' n len c xs w' h' hbig).mono fun e w2 ⟨b', he, hb', hw⟩ => ⟨by rw [he]; exact ret_bool (Bool.eq_iff_iff.2 (hb'.trans hb.symm)), hw⟩
    clear hb
    have hbig' : (len : Int) ≤ 1048576 := by omega
    go_enter Try.func3, Try.ntmps3
    go_wp2_with fail
    refine (szParcelS_yes A len cap w hbig).mono ?_
    rintro e w1 ⟨rfl, rfl⟩
    go_wp2_with fail
    refine (toParcelS_any A len cap xs w H.out hbig).mono ?_
    rintro e w1 ⟨v, rfl, hown, hb1⟩
    obtain ⟨A1, c1, rfl, hs1⟩ := hown.sl enc3_len
    rw [H.out.len] at hs1 ⊢
    have HB1 := Lib.hid hb1
    have HS1 := Lib.hid hs1
    clear hown hb1 hs1
    go_wp2_with fail
    refine (HS.out A1 c1 w1 HS1.out).mono ?_
    rintro e w2 ⟨rfl, hb2⟩
    have HB2 := Lib.hid (below_trans HB1.out hb2)
    clear hb2
    go_wp2_with fail
    refine (toParcelS_any A len cap xs w2 (H.out.below HB2.out) hbig).mono ?_
    rintro e w3 ⟨v, rfl, hown, hb3⟩
    obtain ⟨A3, c3, rfl, hs3⟩ := hown.sl enc3_len
    rw [H.out.len] at hs3 ⊢
    have HB3 := Lib.hid (below_trans HB2.out hb3)
    have HS3 := Lib.hid hs3
    clear hown hb3 hs3
    go_wp2_with fail
    refine (HI.out A3 c3 w3 HS3.out).mono ?_
    rintro e w4 ⟨rfl, hb4⟩
    have HB4 := Lib.hid (below_trans HB3.out hb4)
    have HS4 := Lib.hid (HS3.out.below hb4)
    clear hb4
    go_wp2_with fail
    refine (toParcelS_any A len cap xs w4 (H.out.below HB4.out) hbig).mono ?_
    rintro e w5 ⟨v, rfl, hown, hb5⟩
    obtain ⟨A5, c5, rfl, hs5⟩ := hown.sl enc3_len
    rw [H.out.len] at hs5 ⊢
    have HB5 := Lib.hid (below_trans HB4.out hb5)
    have HS5 := Lib.hid hs5
    have HS6 := Lib.hid (HS4.out.below hb5)
    clear hown hb5 hs5
    go_wp2_with fail
    refine (eqParcelS_any _ _ _ _ _ _ _ _ w5 HS6.out HS5.out hbig hbig).mono ?_
    intro e w6 hp
    obtain ⟨rfl, hb6⟩ := hp.yes rfl
    have HB6 := Lib.hid (below_trans HB5.out hb6)
    clear hb6 hp
    go_wp2_with fail
    go_ret
    exact ⟨rfl, HB6.out⟩
  · have hbig' : 1048576 < (len : Int) := by omega
    go_enter Try.func3, Try.ntmps3
    go_wp2_with (go_at_call 15; refine (szParcelS_no A len cap w (by omega) hm).mono ?_; rintro e w2 ⟨rfl, rfl⟩)
    go_ret
    exact ⟨rfl, Below.refl _ _⟩
end Go.Proofs.Ytcfdccjpbkcigaa
