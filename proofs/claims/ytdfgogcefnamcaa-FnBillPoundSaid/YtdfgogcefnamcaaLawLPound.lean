/- Walk of FnBillPound. -/
import Derived.Test.YtdfgogcefnamcaaDrawC
import Derived.Test.YtdfgogcefnamcaaBPlain
import Derived.Test.YtdfgogcefnamcaaWalkD
import Derived.Test.YtdfgogcefnamcaaWalkF
import Derived.Deep.QuietTactic
import Derived.BigQuiet
set_option linter.unusedVariables false
namespace Go.Proofs.Ytdfgogcefnamcaa
open Go.RowKit

set_option maxRecDepth 20000 in
set_option maxHeartbeats 6400000 in
theorem lawFnBillPound_walk (A0 : Option Addr) (len0 cap0 : Nat) (xs0 : List Int) (w : World) (h0 : SlE 1 encU w A0 len0 xs0) (hb0 : Bytes xs0) (hc0 : len0 ≤ cap0) :
    Calls Try.prog 4 #[.slice A0 len0 cap0] w (Only (.bool true) w) := by
  have H0 := Lib.hid h0
  have HB0 := Lib.hid hb0
  clear h0 hb0
  by_cases hbig : (len0 : Int) ≤ 1048576
  rotate_left
  · go_enter Try.func4, Try.ntmps4
    go_wp2_with fail
    go_ret
    exact ⟨rfl, Below.refl _ _⟩
  go_enter Try.func4, Try.ntmps4
  go_wp2_with fail
  refine (drawBillPound_any A0 len0 cap0 xs0 w H0.out HB0.out (by omega) hc0).mono ?_
  rintro e w1 ⟨n, v, xs, rfl, n0, n1, hl, hown, hb⟩
  clear H0 HB0
  obtain ⟨n, rfl⟩ : ∃ i : Nat, n = i := ⟨n.toNat, by omega⟩
  obtain ⟨A, c, rfl, -, hlc⟩ := hown.slc enc3_len rfl
  generalize hlen : xs.length = len at *
  have HL := Lib.hid hlen
  have S1 := Lib.hid (sl_of_own_at enc3_len hown hlen)
  have B1 := Lib.hid hb
  clear hown hb hlen
  by_cases hok : BillOk n xs
  rotate_left
  · have HN := Lib.hid hok
    clear hok
    go_wp2_with fail
    refine (implBillPound_no A n len c xs w1 S1.out (by omega) HN.out).mono ?_
    rintro e w2 ⟨rfl, hb⟩
    have S2 := Lib.hid (S1.out.below hb)
    have B2 := Lib.hid (below_trans B1.out hb)
    clear hb S1 B1
    go_wp2_with fail
    refine (specBillPound_no A n len c xs w2 S2.out (by omega) HN.out).mono ?_
    rintro e w3 ⟨rfl, hb⟩
    have S3 := Lib.hid (S2.out.below hb)
    have B3 := Lib.hid (below_trans B2.out hb)
    clear hb S2 B2
    go_wp2_with fail
    go_ret
    exact ⟨rfl, B3.out⟩
  have HOK := Lib.hid hok
  have HSP : Hid (∀ W, SlE 3 enc3 W A len xs → Calls Try.prog 22 #[.int .i64 n, .slice A len c] W (Only (.int .i64 (pound xs)) W)) := fun W h => by
    rw [← sumTo_pound n xs HOK.out.2.2.2.1]
    exact specBillPound_yes A n len c xs W h (by omega) HOK.out
  have HT : Hid (BillOk n (turned n xs)) := bill_turned hok
  have HPT := Lib.hid (pound_turned n xs)
  have HTL := Lib.hid (show (turned n xs).length = len by rw [turned_len, HL.out])
  have HOKP := Lib.hid hok.2.2.2.1
  have hbd := pound_bd (n := n) (by omega) xs hok.2.2.2.1
  have hrm := pound_room hok
  obtain ⟨p0, p1⟩ := hbd
  rw [HL.out] at p1
  clear hok
  go_wp2_with fail
  refine (implBillPound_yes A n len c xs w1 S1.out (by omega) HOK.out).mono ?_
  rintro e w2 ⟨rfl, hb⟩
  have S2 := Lib.hid (S1.out.below hb)
  have B2 := Lib.hid (below_trans B1.out hb)
  clear hb S1 B1
  go_wp2_with fail
  refine (HSP.out w2 S2.out).mono ?_
  rintro e w3 ⟨rfl, hb⟩
  have S3 := Lib.hid (S2.out.below hb)
  have B3 := Lib.hid (below_trans B2.out hb)
  clear hb S2 B2
  obtain ⟨W0, rfl⟩ : ∃ W0, W0 = w3 := ⟨_, rfl⟩
  go_wp2_with fail
  go_loopw [8, 7] (fun i s wr => ∃ k : Nat, k ≤ len ∧ i = .int .i64 k ∧ s = .int .i64 (pound (xs.take k)) ∧ Below W0.heap.size W0 wr) (fun i _ _ => len - (intOf i).toNat)
  case atStart => exact ⟨0, by omega, rfl, rfl, Below.refl _ _⟩
  case round =>
    obtain ⟨k, hk, rfl, rfl, hbr⟩ := hrel
    have HR := Lib.hid hbr
    clear hbr
    by_cases hlt : k < len
    · obtain ⟨b, off, x, y, z, rfl, hbl, hx, hd, g0, g1, g2⟩ := at3 S3.out HR.out hlt
      have hokp := HOKP.out _ (mem_at hx)
      have hmul := okP_mul (n := n) (by omega) hokp
      have hpk := pound_bd (n := n) (by omega) (xs.take k) (fun p hp => HOKP.out p (List.mem_of_mem_take hp))
      have hkl : (xs.take k).length ≤ k := List.length_take_le _ _
      have HN := Lib.hid (pound_next hx)
      unfold OkP at hokp
      dsimp only at hokp hmul
      generalize pound (xs.take k) = Pk at *
      obtain ⟨m0, m1⟩ := hmul
      obtain ⟨m2, m3⟩ := hpk
      have e1 : IntKind.i64.wrap (y - x) = y - x := IntWalk.i64_in _ (by omega)
      obtain ⟨pr, hpr⟩ : ∃ pr, z * (y - x) = pr := ⟨_, rfl⟩
      rw [hpr] at m0 m1
      have e2 : IntKind.i64.wrap pr = pr := IntWalk.i64_in _ (by omega)
      have e3 : IntKind.i64.wrap (Pk + pr) = Pk + pr := IntWalk.i64_in _ (by omega)
      have HPR := Lib.hid hpr
      clear hx hd hokp
      go_wp2_with fail
      go_quiet (fail)
      clear e1 e2 e3 hpr
      go_wp2_with fail
      go_roundw
      case rel => exact ⟨k + 1, by omega, by go_num, by rw [HN.out]; exact congrArg (fun q => Value.int .i64 (Pk + q)) HPR.out.symm, bl_drewN HR.out _⟩
      case measure => simp [intOf]; omega
    · have e : k = len := by omega
      subst e
      have HTK := Lib.hid (show xs.take k = xs by rw [List.take_of_length_le (by rw [HL.out]; omega)])
      rw [HTK.out]
      have S4 := Lib.hid (S3.out.below HR.out)
      have B4 := Lib.hid (below_trans B3.out HR.out)
      clear HTK
      obtain ⟨w4, rfl⟩ : ∃ w4, w4 = wr := ⟨_, rfl⟩
      go_wp2_with fail
      refine (implBillTurn_yes A n k c xs w4 S4.out (by omega) HOK.out).mono ?_
      rintro e w5 ⟨v5, rfl, hown, hb⟩
      obtain ⟨A5, c5, rfl, -, hc5⟩ := hown.slc enc3_len (n := k) HTL.out
      have S5 := Lib.hid (S4.out.below hb)
      have B5 := Lib.hid (below_trans B4.out hb)
      have E5 := Lib.hid (sl_of_own_at enc3_len hown HTL.out)
      clear hb S4 B4 hown
      have HPI : Hid (∀ W, SlE 3 enc3 W A5 k (turned n xs) → Calls Try.prog 21 #[.int .i64 n, .slice A5 k c5] W (Only (.int .i64 (pound xs)) W)) := fun W h => by
        rw [← HPT.out]
        exact implBillPound_yes A5 n k c5 _ W h (by omega) HT.out
      generalize pound xs = P0 at *
      go_wp2_with fail
      refine (HPI.out w5 E5.out).mono ?_
      rintro e w6 ⟨rfl, hb⟩
      have S6 := Lib.hid (S5.out.below hb)
      have E6 := Lib.hid (E5.out.below hb)
      have B6 := Lib.hid (below_trans B5.out hb)
      clear hb S5 E5 B5
      have x1 : IntKind.i64.wrap (300 * (n : Int)) = 300 * (n : Int) := IntWalk.i64_in _ (by omega)
      go_wp2_with fail
      go_ret
      exact ⟨by simp <;> omega, B6.out⟩
end Go.Proofs.Ytdfgogcefnamcaa
