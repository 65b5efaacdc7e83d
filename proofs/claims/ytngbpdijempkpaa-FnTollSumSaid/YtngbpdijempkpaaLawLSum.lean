/- Walk of FnTollSum. -/
import Derived.Test.YtngbpdijempkpaaDrawS
import Derived.Test.YtngbpdijempkpaaTPlainG
import Derived.Test.YtngbpdijempkpaaLV
import Derived.Test.YtngbpdijempkpaaTWalkC
import Derived.Test.YtngbpdijempkpaaTWalkS
import Derived.Test.YtngbpdijempkpaaTWalkD
set_option linter.unusedVariables false
namespace Go.Proofs.Ytngbpdijempkpaa
open Go.RowKit

set_option maxRecDepth 20000 in
set_option maxHeartbeats 6400000 in
theorem lawFnTollSum_walk (A0 : Option Addr) (len0 cap0 : Nat) (xs0 : List Int) (w : World) (h0 : SlE 1 encU w A0 len0 xs0) (hb0 : Bytes xs0) (hc0 : len0 ≤ cap0) :
    Calls Try.prog 11 #[.slice A0 len0 cap0] w (Only (.bool true) w) := by
  have H0 := Lib.hid h0
  have HB0 := Lib.hid hb0
  clear h0 hb0
  by_cases hbig : (len0 : Int) ≤ 1048576
  rotate_left
  · go_enter Try.func11, Try.ntmps11
    go_wp2_with fail
    go_ret
    exact ⟨rfl, Below.refl _ _⟩
  go_enter Try.func11, Try.ntmps11
  go_wp2_with fail
  refine (drawTollSum_any A0 len0 cap0 xs0 w H0.out HB0.out (by omega) hc0).mono ?_
  rintro e w1 ⟨v, xs, free, x, y, u, paid, rfl, hl, ⟨f0, f1⟩, ⟨x0, x1⟩, ⟨y0, y1⟩, hyl, hown, howp, hb1⟩
  obtain ⟨A, c, rfl, -, hlc⟩ := hown.slc enc3_len rfl
  obtain ⟨Ap, cp, rfl, -, hlp⟩ := howp.slc encI_len rfl
  generalize hlen : xs.length = len at *
  generalize hplen : paid.length = m at *
  have HL := Lib.hid hlen
  have HM := Lib.hid hplen
  have O1 := Lib.hid (sl_of_own_at enc3_len hown hlen)
  have P1 := Lib.hid (sl_of_own_at encI_len howp hplen)
  have B1 := Lib.hid hb1
  clear hown howp hb1 H0 HB0 hlen hplen
  by_cases hok : PayOk xs free x y paid
  · have HOK := Lib.hid hok
    obtain ⟨⟨⟨hG, ⟨x2, x3⟩, y2, y3⟩, f2, f3⟩, hpay⟩ := hok
    have hps : Asc (gAt xs) (idxIf (inW x y) xs) := idxIf_asc hG
    have hpl : (idxIf (inW x y) xs).length ≤ 10 := Nat.le_trans (idxIf_len (inW x y) xs) (by rw [HL.out]; omega)
    have hcs : ∀ i ∈ idxIf (inW x y) xs, 1 ≤ (gAt xs i).c ∧ (gAt xs i).c ≤ 99 := fun i hi => by
      obtain ⟨k, rfl, hk, e, h1, h2, h3, h4, h5, h6⟩ := gate_of hG hi
      omega
    have hmp := must_pays (g := gAt xs) f2 hps
    have hc0 : ∀ i ∈ idxIf (inW x y) xs, 0 ≤ (gAt xs i).c := fun i hi => by have := hcs i hi; omega
    have t1 : LV xs free x y ≤ sumC (gAt xs) paid := least_le_pays f2 hps hpay
    have t2 := sumC_sub hpay.1 hc0
    have t3 : LV xs free x y ≤ sumC (gAt xs) (must (gAt xs) free (idxIf (inW x y) xs)) := least_le_pays f2 hps hmp
    have t4 := sumC_sub hmp.1 hc0
    have t5 := (lv_bd hG free x y).1
    have t6 := (sumC_bd (g := gAt xs) (idxIf (inW x y) xs) hcs).2
    have hml : (must (gAt xs) free (idxIf (inW x y) xs)).length ≤ 10 := Nat.le_trans hmp.1.length_le hpl
    have HS1 : Hid (SumIs xs free x y paid (sumC (gAt xs) paid)) := .inl ⟨HOK.out, rfl⟩
    have HS2 : Hid (SumIs xs free x y (idxIf (inW x y) xs) (sumC (gAt xs) (idxIf (inW x y) xs))) := .inl ⟨⟨HOK.out.1, pays_all _⟩, rfl⟩
    have HS3 : Hid (SumIs xs free x y (must (gAt xs) free (idxIf (inW x y) xs)) (sumC (gAt xs) (must (gAt xs) free (idxIf (inW x y) xs)))) := .inl ⟨⟨HOK.out.1, hmp⟩, rfl⟩
    have HLE : Hid (LeastIs xs free x y (LV xs free x y)) := .inl ⟨HOK.out.1, rfl⟩
    have HMU : Hid (MustIs xs free x y (must (gAt xs) free (idxIf (inW x y) xs)) true) := .inl ⟨rfl, HOK.out.1, rfl⟩
    have HPS : Hid (∀ W, SlE 3 enc3 W A len xs → Calls Try.prog 22 #[.slice A len c, .int .i64 x, .int .i64 y] W (RetOwn 1 encI 3 (idxIf (inW x y) xs) W)) :=
      fun W h1 => implGatesPassed_any A len c xs x y _ W h1 (by omega) (.inl ⟨HOK.out.1.1, rfl⟩)
    clear hG hps hcs hmp hc0 hpay
    generalize must (gAt xs) free (idxIf (inW x y) xs) = ms at *
    generalize idxIf (inW x y) xs = ps at *
    generalize LV xs free x y = L0 at *
    generalize sumC (gAt xs) paid = S1 at *
    generalize sumC (gAt xs) ps = S2 at *
    generalize sumC (gAt xs) ms = S3 at *
    generalize hmsl : ms.length = ml at *
    generalize hpsl : ps.length = pl at *
    have HMS := Lib.hid hmsl
    have HPL := Lib.hid hpsl
    clear hmsl hpsl
    go_wp2_with fail
    refine (implTollSum_any A Ap len c m cp xs free x y S1 paid w1 O1.out P1.out (by omega) (by omega) HS1.out).mono ?_
    rintro e w2 ⟨rfl, hb2⟩
    have O2 := Lib.hid (O1.out.below hb2)
    have P2 := Lib.hid (P1.out.below hb2)
    have B2 := Lib.hid (below_trans B1.out hb2)
    clear hb2 O1 P1 B1
    go_wp2_with fail
    refine (specTollSum_any A Ap len c m cp xs free x y S1 paid w2 O2.out P2.out (by omega) (by omega) HS1.out).mono ?_
    rintro e w3 ⟨rfl, hb3⟩
    have O3 := Lib.hid (O2.out.below hb3)
    have B3 := Lib.hid (below_trans B2.out hb3)
    clear hb3 O2 P2 B2
    go_wp2_with fail
    refine (HPS.out w3 O3.out).mono ?_
    rintro e w4 ⟨v4, rfl, hown4, hb4⟩
    obtain ⟨A4, c4, rfl, -, -⟩ := hown4.slc encI_len HPL.out
    have Q4 := Lib.hid (sl_of_own_at encI_len hown4 HPL.out)
    have O4 := Lib.hid (O3.out.below hb4)
    have B4 := Lib.hid (below_trans B3.out hb4)
    clear hb4 hown4 O3 B3
    go_wp2_with fail
    refine (implTollMust_any A len c xs free x y ms true w4 O4.out (by omega) HMU.out).mono ?_
    rintro e w5 ⟨v5, rfl, hown5, hb5⟩
    obtain ⟨A5, c5, rfl, -, -⟩ := hown5.slc encI_len HMS.out
    have M5 := Lib.hid (sl_of_own_at encI_len hown5 HMS.out)
    have Q5 := Lib.hid (Q4.out.below hb5)
    have O5 := Lib.hid (O4.out.below hb5)
    have B5 := Lib.hid (below_trans B4.out hb5)
    clear hb5 hown5 O4 B4 Q4
    go_wp2_with fail
    refine (implTollSum_any A A4 len c pl c4 xs free x y S2 ps w5 O5.out Q5.out (by omega) (by omega) HS2.out).mono ?_
    rintro e w6 ⟨rfl, hb6⟩
    have M6 := Lib.hid (M5.out.below hb6)
    have O6 := Lib.hid (O5.out.below hb6)
    have B6 := Lib.hid (below_trans B5.out hb6)
    clear hb6 O5 B5 Q5 M5
    go_wp2_with fail
    refine (implTollSum_any A A5 len c ml c5 xs free x y S3 ms w6 O6.out M6.out (by omega) (by omega) HS3.out).mono ?_
    rintro e w7 ⟨rfl, hb7⟩
    have O7 := Lib.hid (O6.out.below hb7)
    have B7 := Lib.hid (below_trans B6.out hb7)
    clear hb7 O6 B6 M6
    go_wp2_with fail
    refine (implTollLeast_any A len c xs free x y L0 w7 O7.out (by omega) HLE.out).mono ?_
    rintro e w8 ⟨rfl, hb8⟩
    have B8 := Lib.hid (below_trans B7.out hb8)
    clear hb8 O7 B7
    go_wp2_with fail
    go_ret
    exact ⟨by simp <;> omega, B8.out⟩
  · have HN := Lib.hid hok
    clear hok
    go_wp2_with fail
    refine (implTollSum_any A Ap len c m cp xs free x y (-1) paid w1 O1.out P1.out (by omega) (by omega) (.inr ⟨HN.out, rfl⟩)).mono ?_
    rintro e w2 ⟨rfl, hb2⟩
    have O2 := Lib.hid (O1.out.below hb2)
    have P2 := Lib.hid (P1.out.below hb2)
    have B2 := Lib.hid (below_trans B1.out hb2)
    clear hb2 O1 P1 B1
    go_wp2_with fail
    refine (specTollSum_any A Ap len c m cp xs free x y (-1) paid w2 O2.out P2.out (by omega) (by omega) (.inr ⟨HN.out, rfl⟩)).mono ?_
    rintro e w3 ⟨rfl, hb3⟩
    have B3 := Lib.hid (below_trans B2.out hb3)
    clear hb3 O2 P2 B2
    go_wp2_with fail
    go_ret
    exact ⟨rfl, B3.out⟩
end Go.Proofs.Ytngbpdijempkpaa
