/- Walk of FnBillRoom. -/
import Derived.Test.YtdfgogcefnamcaaDrawN
import Derived.Test.YtdfgogcefnamcaaBPlain
import Derived.Test.YtdfgogcefnamcaaWalkD
import Derived.Test.YtdfgogcefnamcaaWalkG
set_option linter.unusedVariables false
namespace Go.Proofs.Ytdfgogcefnamcaa
open Go.RowKit

set_option maxRecDepth 20000 in
set_option maxHeartbeats 6400000 in
theorem lawFnBillRoom_walk (A0 : Option Addr) (len0 cap0 : Nat) (xs0 : List Int) (A1 : Option Addr) (len1 cap1 : Nat) (xs1 : List Int) (w : World) (h0 : SlE 1 encU w A0 len0 xs0) (hb0 : Bytes xs0) (hc0 : len0 ≤ cap0) (h1 : SlE 1 encU w A1 len1 xs1) (hb1 : Bytes xs1) (hc1 : len1 ≤ cap1) :
    Calls Try.prog 7 #[.slice A0 len0 cap0, .slice A1 len1 cap1] w (Only (.bool true) w) := by
  have H0 := Lib.hid h0
  have HB0 := Lib.hid hb0
  clear h0 hb0 h1 hb1
  by_cases hbig : (len0 : Int) ≤ 1048576
  rotate_left
  · go_enter Try.func7, Try.ntmps7
    go_wp2_with fail
    go_ret
    exact ⟨rfl, Below.refl _ _⟩
  by_cases hbig1 : (len1 : Int) ≤ 1048576
  rotate_left
  · go_enter Try.func7, Try.ntmps7
    go_wp2_with fail
    go_ret
    exact ⟨rfl, Below.refl _ _⟩
  go_enter Try.func7, Try.ntmps7
  go_wp2_with fail
  refine (drawBillRoom_any A0 len0 cap0 xs0 w H0.out HB0.out (by omega) hc0).mono ?_
  rintro e w1 ⟨n, v, xs, f, t, rfl, n0, n1, hl, ⟨f0, f1⟩, ⟨t0, t1⟩, hown, hb⟩
  clear H0 HB0
  obtain ⟨n, rfl⟩ : ∃ i : Nat, n = i := ⟨n.toNat, by omega⟩
  obtain ⟨A, c, rfl, -, hlc⟩ := hown.slc enc3_len rfl
  generalize hlen : xs.length = len at *
  have HL := Lib.hid hlen
  have S1 := Lib.hid (sl_of_own_at enc3_len hown hlen)
  have B1 := Lib.hid hb
  clear hown hb hlen
  by_cases hok : BillOk n xs ∧ 0 ≤ f ∧ f < t ∧ t ≤ n
  rotate_left
  · have HN := Lib.hid hok
    clear hok
    go_wp2_with fail
    refine (implBillRoom_no A n f t len c xs w1 S1.out (by omega) HN.out).mono ?_
    rintro e w2 ⟨rfl, hb⟩
    have S2 := Lib.hid (S1.out.below hb)
    have B2 := Lib.hid (below_trans B1.out hb)
    clear hb S1 B1
    go_wp2_with fail
    refine (specBillRoom_no A n f t len c xs w2 S2.out (by omega) HN.out).mono ?_
    rintro e w3 ⟨rfl, hb⟩
    have S3 := Lib.hid (S2.out.below hb)
    have B3 := Lib.hid (below_trans B2.out hb)
    clear hb S2 B2
    go_wp2_with fail
    go_ret
    exact ⟨rfl, B3.out⟩
  obtain ⟨hB, hft⟩ := hok
  have HOK := Lib.hid hB
  have HFT := Lib.hid hft
  obtain ⟨h0, h1, h2⟩ := hft
  obtain ⟨j, hj⟩ : ∃ j : Nat, (t - f).toNat = j + 1 := ⟨(t - f).toNat - 1, by omega⟩
  obtain ⟨q, hq0, hq1, hq⟩ : ∃ q : Int, 0 ≤ q ∧ q < 99 ∧ (len1 : Int) % 99 = q := ⟨_, by omega, by omega, rfl⟩
  have hrb := roomTo_bd hB f h0 (t - f).toNat (by omega)
  have hadd := add_iff (w := 1 + q) hB ⟨h0, h1, h2⟩ (by omega)
  have hra := room_add (n := n) hB.2.2.2.1 f t (1 + q) (by omega) j (by omega)
  rw [← hj] at hra
  have HIM := Lib.hid (fun (W : World) (h : SlE 3 enc3 W A len xs) => implBillRoom_yes A n f t len c xs W h (by omega) HOK.out HFT.out)
  have HSP := Lib.hid (fun (W : World) (h : SlE 3 enc3 W A len xs) => specBillRoom_yes A n f t len c xs W h (by omega) HOK.out HFT.out)
  have HAL := Lib.hid (show (xs ++ [(⟨f, t, 1 + q⟩ : T3)]).length = len + 1 by rw [List.length_append, HL.out]; rfl)
  have HIA : Hid (BillOk n (xs ++ [⟨f, t, 1 + q⟩]) → ∀ (A' : Option Addr) (c' : Nat) (W : World), SlE 3 enc3 W A' (len + 1) (xs ++ [⟨f, t, 1 + q⟩]) → Calls Try.prog 33 #[.int .i64 n, .slice A' (len + 1) c', .int .i64 f, .int .i64 t] W (Only (.int .i64 (roomTo xs f (t - f).toNat - (1 + q))) W)) := fun hB2 A' c' W h => by
    have := implBillRoom_yes A' n f t (len + 1) c' _ W h (by omega) hB2 HFT.out
    rw [hra] at this
    exact this
  rw [HL.out] at hadd
  clear hra hB
  generalize roomTo xs f (t - f).toNat = r at *
  obtain ⟨r0, r1⟩ := hrb
  go_wp2_with fail
  refine (HIM.out w1 S1.out).mono ?_
  rintro e w2 ⟨rfl, hb⟩
  have S2 := Lib.hid (S1.out.below hb)
  have B2 := Lib.hid (below_trans B1.out hb)
  clear hb S1 B1
  go_wp2_with fail
  refine (HSP.out w2 S2.out).mono ?_
  rintro e w3 ⟨rfl, hb⟩
  have S3 := Lib.hid (S2.out.below hb)
  have B3 := Lib.hid (below_trans B2.out hb)
  clear hb S2 B2
  by_cases hJ : JoinOk n xs [⟨f, t, 1 + q⟩]
  · have HJ := Lib.hid hJ
    have hr := (hadd.1 hJ.2).1
    have HI2 := Lib.hid (HIA.out hJ.2)
    clear hJ hadd
    go_wp2_with fail
    refine (implBillAdd_any A n len c xs f t (1 + q) _ true w3 S3.out (by omega) (.inl ⟨rfl, HJ.out, rfl⟩)).mono ?_
    rintro e w4 ⟨v4, rfl, hown, hb⟩
    obtain ⟨A4, c4, rfl, -, hc4⟩ := hown.slc enc3_len (n := (len + 1)) HAL.out
    have B4 := Lib.hid (below_trans B3.out hb)
    have E4 := Lib.hid (sl_of_own_at enc3_len hown HAL.out)
    clear hb S3 B3 hown
    go_wp2_with fail
    refine (HI2.out A4 c4 w4 E4.out).mono ?_
    rintro e w5 ⟨rfl, hb⟩
    have E5 := Lib.hid (E4.out.below hb)
    have B5 := Lib.hid (below_trans B4.out hb)
    clear hb E4 B4
    have x1 : IntKind.i64.wrap (r - (1 + q)) = r - (1 + q) := IntWalk.i64_in _ (by omega)
    go_wp2_with fail
    go_ret
    exact ⟨by simp <;> omega, B5.out⟩
  · have HJ := Lib.hid hJ
    have hr : ¬ (1 + q ≤ r) := fun h => hJ ⟨HOK.out, hadd.2 ⟨h, by omega⟩⟩
    clear hJ hadd
    go_wp2_with fail
    refine (implBillAdd_any A n len c xs f t (1 + q) _ false w3 S3.out (by omega) (.inr ⟨rfl, HJ.out, rfl⟩)).mono ?_
    rintro e w4 ⟨v4, rfl, hown, hb⟩
    obtain ⟨A4, c4, rfl, -, hc4⟩ := hown.slc enc3_len (n := 0) rfl
    have B4 := Lib.hid (below_trans B3.out hb)
    have E4 := Lib.hid (sl_of_own_at enc3_len hown rfl)
    clear hb S3 B3 hown
    go_wp2_with fail
    go_ret
    exact ⟨by simp <;> omega, B4.out⟩
end Go.Proofs.Ytdfgogcefnamcaa
