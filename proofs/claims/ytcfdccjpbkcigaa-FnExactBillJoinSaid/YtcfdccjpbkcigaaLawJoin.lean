/- Walk of FnExactBillJoin. -/
import Derived.Test.YtcfdccjpbkcigaaBoth
import Derived.Test.YtcfdccjpbkcigaaEx
set_option linter.unusedVariables false
namespace Go.Proofs.Ytcfdccjpbkcigaa
open Go.RowKit

set_option maxHeartbeats 3200000 in
theorem lawFnExactBillJoin_walk (a0 : Int) (A1 : Option Addr) (len1 cap1 : Nat) (xs1 : List T3) (A2 : Option Addr) (len2 cap2 : Nat) (xs2 : List T3) (w : World) (h1 : SlE 3 enc3 w A1 len1 xs1) (hm1 : len1 ≤ 9223372036854775807) (h2 : SlE 3 enc3 w A2 len2 xs2) (hm2 : len2 ≤ 9223372036854775807) :
    Calls Try.prog 10 #[.int .i64 a0, .slice A1 len1 cap1, .slice A2 len2 cap2] w (Only (.bool true) w) := by
  have H1 := Lib.hid h1
  have H2 := Lib.hid h2
  clear h1 h2
  by_cases hbig1 : (len1 : Int) ≤ 1048576
  rotate_left
  · skip
    go_enter Try.func10, Try.ntmps10
    go_wp2_with fail
    refine (szParcelS_no _ _ _ _ _ (by omega) (by omega) (by omega) hm1).mono ?_
    rintro e w2 ⟨rfl, rfl⟩
    go_wp2_with fail
    go_ret
    exact ⟨rfl, Below.refl _ _⟩
  by_cases hbig2 : (len1 : Int) + (len2 : Int) ≤ 1048576
  rotate_left
  · skip
    go_enter Try.func10, Try.ntmps10
    go_wp2_with fail
    refine (szParcelS_yes _ _ _ _ _ (by omega) (by omega)).mono ?_
    rintro e w2 ⟨rfl, rfl⟩
    go_wp2_with fail
    refine (szParcelS_no _ _ _ _ _ (by omega) (by omega) (by omega) hm2).mono ?_
    rintro e w2 ⟨rfl, rfl⟩
    go_wp2_with fail
    go_ret
    exact ⟨rfl, Below.refl _ _⟩
  have bg : len1 ≤ 16777216 ∧ len2 ≤ 16777216 := by omega
  have bg1 : len1 ≤ 1048576 := by omega
  have bg2 : len2 ≤ 1048576 := by omega
  clear bg
  obtain ⟨ys, bb, hyl, hsp, him⟩ := join_both a0 xs1 xs2 (by rw [H1.out.len]; exact bg1) (by rw [H2.out.len]; exact bg2)
  generalize hml : ys.length = ml at hyl
  have HML := Lib.hid hml
  clear hml
  have HSP := Lib.hid hsp
  have HIM := Lib.hid him
  clear hsp him
  go_enter Try.func10, Try.ntmps10
  go_wp2_with fail
  refine (szParcelS_yes _ _ _ _ _ (by omega) (by omega)).mono ?_
  rintro e w0 ⟨rfl, rfl⟩
  go_wp2_with fail
  refine (szParcelS_yes _ _ _ _ _ (by omega) (by omega)).mono ?_
  rintro e w0 ⟨rfl, rfl⟩
  have z0 : w.heap.size ≤ w.heap.size := Nat.le_refl _
  go_wp2_with fail
  refine (toParcelS_any A1 len1 cap1 xs1 _ (H1.out.below (Lib.hid (Below.refl w.heap.size w)).out) (by omega)).mono ?_
  rintro e w1 ⟨vw1, rfl, hown, hbel⟩
  obtain ⟨Ap1, cp1, rfl, hsl, hlcp1⟩ := hown.slc enc3_len H1.out.len
  have Lp1 := Lib.hid hown.lt
  have Op1 := Lib.hid hown
  clear hown hsl
  have HBw1 := Lib.hid (below_trans (Lib.hid (Below.refl w.heap.size w)).out hbel)
  have zw1 := hbel.size
  clear hbel
  go_wp2_with fail
  refine (toParcelS_any A2 len2 cap2 xs2 _ (H2.out.below HBw1.out) (by omega)).mono ?_
  rintro e w2 ⟨vw2, rfl, hown, hbel⟩
  obtain ⟨Ap2, cp2, rfl, hsl, hlcp2⟩ := hown.slc enc3_len H2.out.len
  have Lp2 := Lib.hid hown.lt
  have Op2 := Lib.hid hown
  clear hown hsl
  have HBw2 := Lib.hid (below_trans HBw1.out hbel)
  have Op1_w2 := Lib.hid (Op1.out.below hbel (Nat.le_refl _))
  have zw2 := hbel.size
  clear hbel
  go_wp2_with fail
  refine (HSP.out Ap1 len1 cp1 Ap2 len2 cp2 _ (sl_of_own_at enc3_len Op1_w2.out H1.out.len) bg1 hlcp1 (sl_of_own_at enc3_len Op2.out H2.out.len) bg2 hlcp2).mono ?_
  rintro e w3 ⟨vw3, rfl, hown, hbel⟩
  obtain ⟨Ag, cg, rfl, hsl, hlcg⟩ := hown.slc enc3_len HML.out
  have Lg := Lib.hid hown.lt
  have Og := Lib.hid hown
  clear hown hsl
  have HBw3 := Lib.hid (below_trans HBw2.out hbel)
  have Op1_w3 := Lib.hid (Op1_w2.out.below hbel (Nat.le_refl _))
  have Op2_w3 := Lib.hid (Op2.out.below hbel (Nat.le_refl _))
  have zw3 := hbel.size
  clear hbel
  clear Op1_w3 Lp1
  clear Op2_w3 Lp2
  go_wp2_with fail
  refine (toParcelS_any A1 len1 cap1 xs1 _ (H1.out.below HBw3.out) (by omega)).mono ?_
  rintro e w4 ⟨vw4, rfl, hown, hbel⟩
  obtain ⟨Ax1, cx1, rfl, hsl, hlcx1⟩ := hown.slc enc3_len H1.out.len
  have Lx1 := Lib.hid hown.lt
  have Ox1 := Lib.hid hown
  clear hown hsl
  have HBw4 := Lib.hid (below_trans HBw3.out hbel)
  have Og_w4 := Lib.hid (Og.out.below hbel (Nat.le_refl _))
  have zw4 := hbel.size
  clear hbel
  go_wp2_with fail
  refine (toParcelS_any A2 len2 cap2 xs2 _ (H2.out.below HBw4.out) (by omega)).mono ?_
  rintro e w5 ⟨vw5, rfl, hown, hbel⟩
  obtain ⟨Ax2, cx2, rfl, hsl, hlcx2⟩ := hown.slc enc3_len H2.out.len
  have Lx2 := Lib.hid hown.lt
  have Ox2 := Lib.hid hown
  clear hown hsl
  have HBw5 := Lib.hid (below_trans HBw4.out hbel)
  have Og_w5 := Lib.hid (Og_w4.out.below hbel (Nat.le_refl _))
  have Ox1_w5 := Lib.hid (Ox1.out.below hbel (Nat.le_refl _))
  have zw5 := hbel.size
  clear hbel
  go_wp2_with fail
  refine (HIM.out Ax1 len1 cx1 Ax2 len2 cx2 _ (sl_of_own_at enc3_len Ox1_w5.out H1.out.len) bg1 hlcx1 (sl_of_own_at enc3_len Ox2.out H2.out.len) bg2 hlcx2).mono ?_
  rintro e w6 ⟨vw6, rfl, hown, hbel⟩
  obtain ⟨Ar, cr, rfl, hsl, hlcr⟩ := hown.slc enc3_len HML.out
  have Lr := Lib.hid hown.lt
  have Or := Lib.hid hown
  clear hown hsl
  have HBw6 := Lib.hid (below_trans HBw5.out hbel)
  have Og_w6 := Lib.hid (Og_w5.out.below hbel (Nat.le_refl _))
  have Ox1_w6 := Lib.hid (Ox1_w5.out.below hbel (Nat.le_refl _))
  have Ox2_w6 := Lib.hid (Ox2.out.below hbel (Nat.le_refl _))
  have zw6 := hbel.size
  clear hbel
  go_wp2_with fail
  refine (eqParcelS_any _ _ _ _ _ _ _ _ _ (sl_of_own_at enc3_len Or.out HML.out) (sl_of_own_at enc3_len Og_w6.out HML.out) (by omega) (by omega)).mono ?_
  intro e w7 hp
  obtain ⟨rfl, hbel⟩ := hp.yes rfl
  clear hp
  have HBw7 := Lib.hid (below_trans HBw6.out hbel)
  have Og_w7 := Lib.hid (Og_w6.out.below hbel (Nat.le_refl _))
  have Ox1_w7 := Lib.hid (Ox1_w6.out.below hbel (Nat.le_refl _))
  have Ox2_w7 := Lib.hid (Ox2_w6.out.below hbel (Nat.le_refl _))
  have Or_w7 := Lib.hid (Or.out.below hbel (Nat.le_refl _))
  have zw7 := hbel.size
  clear hbel
  go_wp2_with fail
  refine (toParcelS_any A1 len1 cap1 xs1 _ (H1.out.below HBw7.out) (by omega)).mono ?_
  rintro e w8 ⟨vw8, rfl, hown, hbel⟩
  obtain ⟨Ay1, cy1, rfl, hsl, hlcy1⟩ := hown.slc enc3_len H1.out.len
  have Ly1 := Lib.hid hown.lt
  have Oy1 := Lib.hid hown
  clear hown hsl
  have HBw8 := Lib.hid (below_trans HBw7.out hbel)
  have Og_w8 := Lib.hid (Og_w7.out.below hbel (Nat.le_refl _))
  have Ox1_w8 := Lib.hid (Ox1_w7.out.below hbel (Nat.le_refl _))
  have Ox2_w8 := Lib.hid (Ox2_w7.out.below hbel (Nat.le_refl _))
  have Or_w8 := Lib.hid (Or_w7.out.below hbel (Nat.le_refl _))
  have zw8 := hbel.size
  clear hbel
  go_wp2_with fail
  refine (eqParcelS_any _ _ _ _ _ _ _ _ _ (sl_of_own_at enc3_len Ox1_w8.out H1.out.len) (sl_of_own_at enc3_len Oy1.out H1.out.len) (by omega) (by omega)).mono ?_
  intro e w9 hp
  obtain ⟨rfl, hbel⟩ := hp.yes rfl
  clear hp
  have HBw9 := Lib.hid (below_trans HBw8.out hbel)
  have Og_w9 := Lib.hid (Og_w8.out.below hbel (Nat.le_refl _))
  have Ox1_w9 := Lib.hid (Ox1_w8.out.below hbel (Nat.le_refl _))
  have Ox2_w9 := Lib.hid (Ox2_w8.out.below hbel (Nat.le_refl _))
  have Or_w9 := Lib.hid (Or_w8.out.below hbel (Nat.le_refl _))
  have Oy1_w9 := Lib.hid (Oy1.out.below hbel (Nat.le_refl _))
  have zw9 := hbel.size
  clear hbel
  clear Oy1_w9 Ly1
  go_wp2_with fail
  refine (toParcelS_any A2 len2 cap2 xs2 _ (H2.out.below HBw9.out) (by omega)).mono ?_
  rintro e w10 ⟨vw10, rfl, hown, hbel⟩
  obtain ⟨Ay2, cy2, rfl, hsl, hlcy2⟩ := hown.slc enc3_len H2.out.len
  have Ly2 := Lib.hid hown.lt
  have Oy2 := Lib.hid hown
  clear hown hsl
  have HBw10 := Lib.hid (below_trans HBw9.out hbel)
  have Og_w10 := Lib.hid (Og_w9.out.below hbel (Nat.le_refl _))
  have Ox1_w10 := Lib.hid (Ox1_w9.out.below hbel (Nat.le_refl _))
  have Ox2_w10 := Lib.hid (Ox2_w9.out.below hbel (Nat.le_refl _))
  have Or_w10 := Lib.hid (Or_w9.out.below hbel (Nat.le_refl _))
  have zw10 := hbel.size
  clear hbel
  go_wp2_with fail
  refine (eqParcelS_any _ _ _ _ _ _ _ _ _ (sl_of_own_at enc3_len Ox2_w10.out H2.out.len) (sl_of_own_at enc3_len Oy2.out H2.out.len) (by omega) (by omega)).mono ?_
  intro e w11 hp
  obtain ⟨rfl, hbel⟩ := hp.yes rfl
  clear hp
  have HBw11 := Lib.hid (below_trans HBw10.out hbel)
  have Og_w11 := Lib.hid (Og_w10.out.below hbel (Nat.le_refl _))
  have Ox1_w11 := Lib.hid (Ox1_w10.out.below hbel (Nat.le_refl _))
  have Ox2_w11 := Lib.hid (Ox2_w10.out.below hbel (Nat.le_refl _))
  have Or_w11 := Lib.hid (Or_w10.out.below hbel (Nat.le_refl _))
  have Oy2_w11 := Lib.hid (Oy2.out.below hbel (Nat.le_refl _))
  have zw11 := hbel.size
  clear hbel
  clear Oy2_w11 Ly2
  go_wp2_with fail
  refine (markParcelS_any _ _ _ _ _ _ _ Ox1_w11.out H1.out.len (by omega) (by omega) (by omega)).mono ?_
  rintro e w12 ⟨rfl, hown, hg⟩
  have HBw12 := Lib.hid (HBw11.out.grown hg HBw11.out.size (fun j hj => Nat.le_trans (by omega) (Lx1.out j hj).1))
  have zw12 := hg.size
  have Og_w12 := Lib.hid (Og_w11.out.apart hg (own_sep Lg.out Lx1.out (by omega)))
  have Ox2_w12 := Lib.hid (Ox2_w11.out.apart hg (own_sep Lx2.out Lx1.out (by omega)))
  have Or_w12 := Lib.hid (Or_w11.out.apart hg (own_sep Lr.out Lx1.out (by omega)))
  have Mx1 := Lib.hid hown
  clear hown hg
  clear Mx1 Lx1
  go_wp2_with fail
  refine (markParcelS_any _ _ _ _ _ _ _ Ox2_w12.out H2.out.len (by omega) (by omega) (by omega)).mono ?_
  rintro e w13 ⟨rfl, hown, hg⟩
  have HBw13 := Lib.hid (HBw12.out.grown hg HBw12.out.size (fun j hj => Nat.le_trans (by omega) (Lx2.out j hj).1))
  have zw13 := hg.size
  have Og_w13 := Lib.hid (Og_w12.out.apart hg (own_sep Lg.out Lx2.out (by omega)))
  have Or_w13 := Lib.hid (Or_w12.out.apart hg (own_sep Lr.out Lx2.out (by omega)))
  have Mx2 := Lib.hid hown
  clear hown hg
  clear Mx2 Lx2
  go_wp2_with fail
  refine (eqParcelS_any _ _ _ _ _ _ _ _ _ (sl_of_own_at enc3_len Or_w13.out HML.out) (sl_of_own_at enc3_len Og_w13.out HML.out) (by omega) (by omega)).mono ?_
  intro e w14 hp
  obtain ⟨rfl, hbel⟩ := hp.yes rfl
  clear hp
  have HBw14 := Lib.hid (below_trans HBw13.out hbel)
  have Og_w14 := Lib.hid (Og_w13.out.below hbel (Nat.le_refl _))
  have Or_w14 := Lib.hid (Or_w13.out.below hbel (Nat.le_refl _))
  have zw14 := hbel.size
  clear hbel
  go_wp2_with fail
  refine (markParcelS_any _ _ _ _ _ _ _ Or_w14.out HML.out (by omega) (by omega) (by omega)).mono ?_
  rintro e w15 ⟨rfl, hown, hg⟩
  have HBw15 := Lib.hid (HBw14.out.grown hg HBw14.out.size (fun j hj => Nat.le_trans (by omega) (Lr.out j hj).1))
  have zw15 := hg.size
  have Og_w15 := Lib.hid (Og_w14.out.apart hg (own_sep Lg.out Lr.out (by omega)))
  have Mr := Lib.hid hown
  clear hown hg
  go_wp2_with fail
  refine (heldParcelS_any _ _ _ 1 _ (sl_of_own_at enc3_len Mr.out (by simp [marks3])) (by omega) (by omega) (by omega)).mono ?_
  rintro e w9 ⟨rfl, rfl⟩
  go_wp2_with fail
  refine (toParcelS_any A1 len1 cap1 xs1 _ (H1.out.below HBw15.out) (by omega)).mono ?_
  rintro e w16 ⟨vw16, rfl, hown, hbel⟩
  obtain ⟨Au1, cu1, rfl, hsl, hlcu1⟩ := hown.slc enc3_len H1.out.len
  have Lu1 := Lib.hid hown.lt
  have Ou1 := Lib.hid hown
  clear hown hsl
  have HBw16 := Lib.hid (below_trans HBw15.out hbel)
  have Og_w16 := Lib.hid (Og_w15.out.below hbel (Nat.le_refl _))
  have Or_w16 := Lib.hid (Mr.out.below hbel (Nat.le_refl _))
  have zw16 := hbel.size
  clear hbel
  go_wp2_with fail
  refine (toParcelS_any A2 len2 cap2 xs2 _ (H2.out.below HBw16.out) (by omega)).mono ?_
  rintro e w17 ⟨vw17, rfl, hown, hbel⟩
  obtain ⟨Au2, cu2, rfl, hsl, hlcu2⟩ := hown.slc enc3_len H2.out.len
  have Lu2 := Lib.hid hown.lt
  have Ou2 := Lib.hid hown
  clear hown hsl
  have HBw17 := Lib.hid (below_trans HBw16.out hbel)
  have Og_w17 := Lib.hid (Og_w16.out.below hbel (Nat.le_refl _))
  have Or_w17 := Lib.hid (Or_w16.out.below hbel (Nat.le_refl _))
  have Ou1_w17 := Lib.hid (Ou1.out.below hbel (Nat.le_refl _))
  have zw17 := hbel.size
  clear hbel
  go_wp2_with fail
  refine (HIM.out Au1 len1 cu1 Au2 len2 cu2 _ (sl_of_own_at enc3_len Ou1_w17.out H1.out.len) bg1 hlcu1 (sl_of_own_at enc3_len Ou2.out H2.out.len) bg2 hlcu2).mono ?_
  rintro e w18 ⟨vw18, rfl, hown, hbel⟩
  obtain ⟨Ah, ch, rfl, hsl, hlch⟩ := hown.slc enc3_len HML.out
  have Lh := Lib.hid hown.lt
  have Oh := Lib.hid hown
  clear hown hsl
  have HBw18 := Lib.hid (below_trans HBw17.out hbel)
  have Og_w18 := Lib.hid (Og_w17.out.below hbel (Nat.le_refl _))
  have Or_w18 := Lib.hid (Or_w17.out.below hbel (Nat.le_refl _))
  have Ou1_w18 := Lib.hid (Ou1_w17.out.below hbel (Nat.le_refl _))
  have Ou2_w18 := Lib.hid (Ou2.out.below hbel (Nat.le_refl _))
  have zw18 := hbel.size
  clear hbel
  go_wp2_with fail
  refine (eqParcelS_any _ _ _ _ _ _ _ _ _ (sl_of_own_at enc3_len Oh.out HML.out) (sl_of_own_at enc3_len Og_w18.out HML.out) (by omega) (by omega)).mono ?_
  intro e w19 hp
  obtain ⟨rfl, hbel⟩ := hp.yes rfl
  clear hp
  have HBw19 := Lib.hid (below_trans HBw18.out hbel)
  have Og_w19 := Lib.hid (Og_w18.out.below hbel (Nat.le_refl _))
  have Or_w19 := Lib.hid (Or_w18.out.below hbel (Nat.le_refl _))
  have Ou1_w19 := Lib.hid (Ou1_w18.out.below hbel (Nat.le_refl _))
  have Ou2_w19 := Lib.hid (Ou2_w18.out.below hbel (Nat.le_refl _))
  have Oh_w19 := Lib.hid (Oh.out.below hbel (Nat.le_refl _))
  have zw19 := hbel.size
  clear hbel
  go_wp2_with fail
  refine (heldParcelS_any _ _ _ 1 _ (sl_of_own_at enc3_len Or_w19.out (by simp [marks3])) (by omega) (by omega) (by omega)).mono ?_
  rintro e w9 ⟨rfl, rfl⟩
  go_wp2_with fail
  go_ret
  exact ⟨rfl, HBw19.out⟩
end Go.Proofs.Ytcfdccjpbkcigaa
