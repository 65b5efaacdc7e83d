/- Walk of FnExactSeatingMake. -/
import Derived.Test.YtkknfhabfmpogaaSBothM
import Derived.Test.YtkknfhabfmpogaaExB
set_option linter.unusedVariables false
namespace Go.Proofs.Ytkknfhabfmpogaa
open Go.RowKit

set_option maxRecDepth 20000 in
set_option maxHeartbeats 3200000 in
theorem lawFnExactSeatingMake_walk (a0 : Int) (A1 : Option Addr) (len1 cap1 : Nat) (xs1 : List B3) (w : World) (h1 : SlE 3 encB w A1 len1 xs1) (hm1 : len1 ≤ 9223372036854775807) :
    Calls Try.prog 6 #[.int .i64 a0, .slice A1 len1 cap1] w (Only (.bool true) w) := by
  have H1 := Lib.hid h1
  clear h1
  by_cases hbig1 : (len1 : Int) ≤ 1048576
  rotate_left
  · skip
    go_enter Try.func6, Try.ntmps6
    go_wp2_with fail
    refine (szBookingS_no _ _ _ _ _ (by omega) (by omega) (by omega) hm1).mono ?_
    rintro e w2 ⟨rfl, rfl⟩
    go_wp2_with fail
    go_ret
    exact ⟨rfl, Below.refl _ _⟩
  have bg : len1 ≤ 16777216 := by omega
  have bg1 : len1 ≤ 1048576 := by omega
  clear bg
  obtain ⟨ys, bb, hyl, hsp, him⟩ := smake_both a0 xs1 (by rw [H1.out.len]; exact bg1)
  generalize hml : ys.length = ml at hyl
  have HML := Lib.hid hml
  clear hml
  have HSP := Lib.hid hsp
  have HIM := Lib.hid him
  clear hsp him
  go_enter Try.func6, Try.ntmps6
  go_wp2_with fail
  refine (szBookingS_yes _ _ _ _ _ (by omega) (by omega)).mono ?_
  rintro e w0 ⟨rfl, rfl⟩
  have z0 : w.heap.size ≤ w.heap.size := Nat.le_refl _
  go_wp2_with fail
  refine (toBookingS_any A1 len1 cap1 xs1 _ (H1.out.below (Lib.hid (Below.refl w.heap.size w)).out) (by omega)).mono ?_
  rintro e w1 ⟨vw1, rfl, hown, hbel⟩
  obtain ⟨Ap1, cp1, rfl, hsl, hlcp1⟩ := hown.slc encB_len H1.out.len
  have Lp1 := Lib.hid hown.lt
  have Op1 := Lib.hid hown
  clear hown hsl
  have HBw1 := Lib.hid (below_trans (Lib.hid (Below.refl w.heap.size w)).out hbel)
  have zw1 := hbel.size
  clear hbel
  go_wp2_with fail
  refine (HSP.out Ap1 len1 cp1 _ (sl_of_own_at encB_len Op1.out H1.out.len) bg1 hlcp1).mono ?_
  rintro e w2 ⟨vw2, rfl, hown, hbel⟩
  obtain ⟨Ag, cg, rfl, hsl, hlcg⟩ := hown.slc encI_len HML.out
  have Lg := Lib.hid hown.lt
  have Og := Lib.hid hown
  clear hown hsl
  have HBw2 := Lib.hid (below_trans HBw1.out hbel)
  have Op1_w2 := Lib.hid (Op1.out.below hbel (Nat.le_refl _))
  have zw2 := hbel.size
  clear hbel
  clear Op1_w2 Lp1
  go_wp2_with fail
  refine (toBookingS_any A1 len1 cap1 xs1 _ (H1.out.below HBw2.out) (by omega)).mono ?_
  rintro e w3 ⟨vw3, rfl, hown, hbel⟩
  obtain ⟨Ax1, cx1, rfl, hsl, hlcx1⟩ := hown.slc encB_len H1.out.len
  have Lx1 := Lib.hid hown.lt
  have Ox1 := Lib.hid hown
  clear hown hsl
  have HBw3 := Lib.hid (below_trans HBw2.out hbel)
  have Og_w3 := Lib.hid (Og.out.below hbel (Nat.le_refl _))
  have zw3 := hbel.size
  clear hbel
  go_wp2_with fail
  refine (HIM.out Ax1 len1 cx1 _ (sl_of_own_at encB_len Ox1.out H1.out.len) bg1 hlcx1).mono ?_
  rintro e w4 ⟨vw4, rfl, hown, hbel⟩
  obtain ⟨Ar, cr, rfl, hsl, hlcr⟩ := hown.slc encI_len HML.out
  have Lr := Lib.hid hown.lt
  have Or := Lib.hid hown
  clear hown hsl
  have HBw4 := Lib.hid (below_trans HBw3.out hbel)
  have Og_w4 := Lib.hid (Og_w3.out.below hbel (Nat.le_refl _))
  have Ox1_w4 := Lib.hid (Ox1.out.below hbel (Nat.le_refl _))
  have zw4 := hbel.size
  clear hbel
  go_wp2_with fail
  refine (eqIntS_any _ _ _ _ _ _ _ _ _ (sl_of_own_at encI_len Or.out HML.out) (sl_of_own_at encI_len Og_w4.out HML.out) (by omega) (by omega)).mono ?_
  intro e w5 hp
  obtain ⟨rfl, hbel⟩ := hp.yes rfl
  clear hp
  have HBw5 := Lib.hid (below_trans HBw4.out hbel)
  have Og_w5 := Lib.hid (Og_w4.out.below hbel (Nat.le_refl _))
  have Ox1_w5 := Lib.hid (Ox1_w4.out.below hbel (Nat.le_refl _))
  have Or_w5 := Lib.hid (Or.out.below hbel (Nat.le_refl _))
  have zw5 := hbel.size
  clear hbel
  go_wp2_with fail
  refine (toBookingS_any A1 len1 cap1 xs1 _ (H1.out.below HBw5.out) (by omega)).mono ?_
  rintro e w6 ⟨vw6, rfl, hown, hbel⟩
  obtain ⟨Ay1, cy1, rfl, hsl, hlcy1⟩ := hown.slc encB_len H1.out.len
  have Ly1 := Lib.hid hown.lt
  have Oy1 := Lib.hid hown
  clear hown hsl
  have HBw6 := Lib.hid (below_trans HBw5.out hbel)
  have Og_w6 := Lib.hid (Og_w5.out.below hbel (Nat.le_refl _))
  have Ox1_w6 := Lib.hid (Ox1_w5.out.below hbel (Nat.le_refl _))
  have Or_w6 := Lib.hid (Or_w5.out.below hbel (Nat.le_refl _))
  have zw6 := hbel.size
  clear hbel
  go_wp2_with fail
  refine (eqBookingS_any _ _ _ _ _ _ _ _ _ (sl_of_own_at encB_len Ox1_w6.out H1.out.len) (sl_of_own_at encB_len Oy1.out H1.out.len) (by omega) (by omega)).mono ?_
  intro e w7 hp
  obtain ⟨rfl, hbel⟩ := hp.yes rfl
  clear hp
  have HBw7 := Lib.hid (below_trans HBw6.out hbel)
  have Og_w7 := Lib.hid (Og_w6.out.below hbel (Nat.le_refl _))
  have Ox1_w7 := Lib.hid (Ox1_w6.out.below hbel (Nat.le_refl _))
  have Or_w7 := Lib.hid (Or_w6.out.below hbel (Nat.le_refl _))
  have Oy1_w7 := Lib.hid (Oy1.out.below hbel (Nat.le_refl _))
  have zw7 := hbel.size
  clear hbel
  clear Oy1_w7 Ly1
  go_wp2_with fail
  refine (markBookingS_any _ _ _ _ _ _ _ Ox1_w7.out H1.out.len (by omega) (by omega) (by omega)).mono ?_
  rintro e w8 ⟨rfl, hown, hg⟩
  have HBw8 := Lib.hid (HBw7.out.grown hg HBw7.out.size (fun j hj => Nat.le_trans (by omega) (Lx1.out j hj).1))
  have zw8 := hg.size
  have Og_w8 := Lib.hid (Og_w7.out.apart hg (own_sep Lg.out Lx1.out (by omega)))
  have Or_w8 := Lib.hid (Or_w7.out.apart hg (own_sep Lr.out Lx1.out (by omega)))
  have Mx1 := Lib.hid hown
  clear hown hg
  clear Mx1 Lx1
  go_wp2_with fail
  refine (eqIntS_any _ _ _ _ _ _ _ _ _ (sl_of_own_at encI_len Or_w8.out HML.out) (sl_of_own_at encI_len Og_w8.out HML.out) (by omega) (by omega)).mono ?_
  intro e w9 hp
  obtain ⟨rfl, hbel⟩ := hp.yes rfl
  clear hp
  have HBw9 := Lib.hid (below_trans HBw8.out hbel)
  have Og_w9 := Lib.hid (Og_w8.out.below hbel (Nat.le_refl _))
  have Or_w9 := Lib.hid (Or_w8.out.below hbel (Nat.le_refl _))
  have zw9 := hbel.size
  clear hbel
  go_wp2_with fail
  refine (markIntS_any _ _ _ _ _ _ _ Or_w9.out HML.out (by omega) (by omega) (by omega)).mono ?_
  rintro e w10 ⟨rfl, hown, hg⟩
  have HBw10 := Lib.hid (HBw9.out.grown hg HBw9.out.size (fun j hj => Nat.le_trans (by omega) (Lr.out j hj).1))
  have zw10 := hg.size
  have Og_w10 := Lib.hid (Og_w9.out.apart hg (own_sep Lg.out Lr.out (by omega)))
  have Mr := Lib.hid hown
  clear hown hg
  go_wp2_with fail
  refine (heldIntS_any _ _ _ 1 _ (sl_of_own_at encI_len Mr.out (by simp [marks1])) (by omega) (by omega) (by omega)).mono ?_
  rintro e w9 ⟨rfl, rfl⟩
  go_wp2_with fail
  refine (toBookingS_any A1 len1 cap1 xs1 _ (H1.out.below HBw10.out) (by omega)).mono ?_
  rintro e w11 ⟨vw11, rfl, hown, hbel⟩
  obtain ⟨Au1, cu1, rfl, hsl, hlcu1⟩ := hown.slc encB_len H1.out.len
  have Lu1 := Lib.hid hown.lt
  have Ou1 := Lib.hid hown
  clear hown hsl
  have HBw11 := Lib.hid (below_trans HBw10.out hbel)
  have Og_w11 := Lib.hid (Og_w10.out.below hbel (Nat.le_refl _))
  have Or_w11 := Lib.hid (Mr.out.below hbel (Nat.le_refl _))
  have zw11 := hbel.size
  clear hbel
  go_wp2_with fail
  refine (HIM.out Au1 len1 cu1 _ (sl_of_own_at encB_len Ou1.out H1.out.len) bg1 hlcu1).mono ?_
  rintro e w12 ⟨vw12, rfl, hown, hbel⟩
  obtain ⟨Ah, ch, rfl, hsl, hlch⟩ := hown.slc encI_len HML.out
  have Lh := Lib.hid hown.lt
  have Oh := Lib.hid hown
  clear hown hsl
  have HBw12 := Lib.hid (below_trans HBw11.out hbel)
  have Og_w12 := Lib.hid (Og_w11.out.below hbel (Nat.le_refl _))
  have Or_w12 := Lib.hid (Or_w11.out.below hbel (Nat.le_refl _))
  have Ou1_w12 := Lib.hid (Ou1.out.below hbel (Nat.le_refl _))
  have zw12 := hbel.size
  clear hbel
  go_wp2_with fail
  refine (eqIntS_any _ _ _ _ _ _ _ _ _ (sl_of_own_at encI_len Oh.out HML.out) (sl_of_own_at encI_len Og_w12.out HML.out) (by omega) (by omega)).mono ?_
  intro e w13 hp
  obtain ⟨rfl, hbel⟩ := hp.yes rfl
  clear hp
  have HBw13 := Lib.hid (below_trans HBw12.out hbel)
  have Og_w13 := Lib.hid (Og_w12.out.below hbel (Nat.le_refl _))
  have Or_w13 := Lib.hid (Or_w12.out.below hbel (Nat.le_refl _))
  have Ou1_w13 := Lib.hid (Ou1_w12.out.below hbel (Nat.le_refl _))
  have Oh_w13 := Lib.hid (Oh.out.below hbel (Nat.le_refl _))
  have zw13 := hbel.size
  clear hbel
  go_wp2_with fail
  refine (heldIntS_any _ _ _ 1 _ (sl_of_own_at encI_len Or_w13.out (by simp [marks1])) (by omega) (by omega) (by omega)).mono ?_
  rintro e w9 ⟨rfl, rfl⟩
  go_wp2_with fail
  go_ret
  exact ⟨rfl, HBw13.out⟩
end Go.Proofs.Ytkknfhabfmpogaa
