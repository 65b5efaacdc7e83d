/- Walk of FnExactGatesAdd. -/
import Derived.Test.YtjlbikfobdbibaaGBothE
import Derived.Test.YtjlbikfobdbibaaCells
import Derived.Test.YtjlbikfobdbibaaGEx
set_option linter.unusedVariables false
namespace Go.Proofs.Ytjlbikfobdbibaa
open Go.RowKit

set_option maxHeartbeats 3200000 in
theorem lawFnExactGatesAdd_walk (A0 : Option Addr) (len0 cap0 : Nat) (xs0 : List T3) (x1 y1 z1 : Int) (w : World) (h0 : SlE 3 enc3 w A0 len0 xs0) (hm0 : len0 ≤ 9223372036854775807) :
    Calls Try.prog 6 #[.slice A0 len0 cap0, .agg #[.int .i64 x1, .int .i64 y1, .int .i64 z1]] w (Only (.bool true) w) := by
  have H0 := Lib.hid h0
  clear h0
  by_cases hbig0 : (len0 : Int) ≤ 1048576
  rotate_left
  · skip
    go_enter Try.func6, Try.ntmps6
    go_wp2_with fail
    refine (szGateS_no _ _ _ _ _ (by omega) (by omega) (by omega) hm0).mono ?_
    rintro e w2 ⟨rfl, rfl⟩
    go_wp2_with fail
    go_ret
    exact ⟨rfl, below_alloc (Below.refl _ _) _⟩
  have bg : len0 ≤ 16777216 := by omega
  have bg0 : len0 ≤ 1048576 := by omega
  obtain ⟨ys, bb, hyl, hsp, him⟩ := add_both xs0 x1 y1 z1 (by rw [H0.out.len]; exact bg0)
  generalize hml : ys.length = ml at hyl
  have HML := Lib.hid hml
  clear hml
  have HSP := Lib.hid hsp
  have HIM := Lib.hid him
  clear hsp him
  go_enter Try.func6, Try.ntmps6
  go_wp2_with fail
  refine (szGateS_yes _ _ _ _ _ (by omega) (by omega)).mono ?_
  rintro e w0 ⟨rfl, rfl⟩
  have CZ := Lib.hid (cells3_new w x1 y1 z1 38)
  have ZB := Lib.hid (below_alloc (Below.refl _ w) (.cells #[.int .i64 x1, .int .i64 y1, .int .i64 z1] 38))
  replace H0 := Lib.hid (H0.out.alloc (.cells #[.int .i64 x1, .int .i64 y1, .int .i64 z1] 38))
  generalize w.alloc (.cells #[.int .i64 x1, .int .i64 y1, .int .i64 z1] 38) = wz at *
  have ZQ := CZ.out.1
  have z0 : wz.heap.size ≤ wz.heap.size := Nat.le_refl _
  go_wp2_with fail
  have CK := CZ.out
  have HDg := Lib.hid (below_drew (Lib.hid (Below.refl wz.heap.size wz)).out)
  have zdg : wz.heap.size ≤ wz.drew.heap.size := Nat.le_refl _
  go_region_held3 (fun w' => w'.cell? ⟨w.heap.size, 0, none⟩ = some (.int .i64 x1) ∧ w'.cell? ⟨w.heap.size, 1, none⟩ = some (.int .i64 y1) ∧ w'.cell? ⟨w.heap.size, 2, none⟩ = some (.int .i64 z1))
    (first | exact CK.2 | exact CZw1.out.2 | exact CZw2.out.2 | exact CZw3.out.2)
    (first | (go_at_call 15; refine (toGateS_any A0 len0 cap0 xs0 _ (H0.out.below HDg.out) bg).mono ?_; rintro e w1 ⟨vw1, rfl, hown, hbel⟩; obtain ⟨Ap0, cp0, rfl, hsl, hlcp0⟩ := hown.slc enc3_len H0.out.len; have Lp0 := Lib.hid hown.lt; have Op0 := Lib.hid hown; clear hown hsl; have HBw1 := Lib.hid (below_trans HDg.out hbel); have zw1 := hbel.size; have CZw1 := Lib.hid (cells3_below CZ.out HBw1.out); clear hbel) | (go_at_call 28; refine (toGate_any x1 y1 z1 _).mono ?_; rintro e w2 ⟨rfl, hbel⟩; have HBw2 := Lib.hid (below_trans HBw1.out hbel); have Op0_w2 := Lib.hid (Op0.out.below hbel (Nat.le_refl _)); have zw2 := hbel.size; have CZw2 := Lib.hid (cells3_below CZ.out HBw2.out); clear hbel) | (go_at_call 27; refine (HSP.out Ap0 len0 cp0 _ (sl_of_own_at enc3_len Op0_w2.out H0.out.len) bg0 hlcp0).mono ?_; rintro e w3 ⟨vw3, rfl, hown, hbel⟩; obtain ⟨Ag, cg, rfl, hsl, hlcg⟩ := hown.slc enc3_len HML.out; have Lg := Lib.hid hown.lt; have Og := Lib.hid hown; clear hown hsl; have HBw3 := Lib.hid (below_trans HBw2.out hbel); have Op0_w3 := Lib.hid (Op0_w2.out.below hbel (Nat.le_refl _)); have zw3 := hbel.size; have CZw3 := Lib.hid (cells3_below CZ.out HBw3.out); clear hbel))
  all_goals skip
  clear CK
  clear Op0_w3 Lp0
  go_wp2_with fail
  refine (toGateS_any A0 len0 cap0 xs0 _ (H0.out.below HBw3.out) (by omega)).mono ?_
  rintro e w4 ⟨vw4, rfl, hown, hbel⟩
  obtain ⟨Ax0, cx0, rfl, hsl, hlcx0⟩ := hown.slc enc3_len H0.out.len
  have Lx0 := Lib.hid hown.lt
  have Ox0 := Lib.hid hown
  clear hown hsl
  have HBw4 := Lib.hid (below_trans HBw3.out hbel)
  have Og_w4 := Lib.hid (Og.out.below hbel (Nat.le_refl _))
  have zw4 := hbel.size
  have CZw4 := Lib.hid (cells3_below CZ.out HBw4.out)
  clear hbel
  obtain ⟨_, CY0, CY1, CY2⟩ := CZw4.out
  go_wp2_with fail
  refine (toGate_any x1 y1 z1 _).mono ?_
  rintro e w5 ⟨rfl, hbel⟩
  have HBw5 := Lib.hid (below_trans HBw4.out hbel)
  have Og_w5 := Lib.hid (Og_w4.out.below hbel (Nat.le_refl _))
  have Ox0_w5 := Lib.hid (Ox0.out.below hbel (Nat.le_refl _))
  have zw5 := hbel.size
  have CZw5 := Lib.hid (cells3_below CZ.out HBw5.out)
  clear hbel
  clear CY0 CY1 CY2
  go_wp2_with fail
  refine (HIM.out Ax0 len0 cx0 _ (sl_of_own_at enc3_len Ox0_w5.out H0.out.len) bg0 hlcx0).mono ?_
  rintro e w6 ⟨vw6, rfl, hown, hbel⟩
  obtain ⟨Ar, cr, rfl, hsl, hlcr⟩ := hown.slc enc3_len HML.out
  have Lr := Lib.hid hown.lt
  have Or := Lib.hid hown
  clear hown hsl
  have HBw6 := Lib.hid (below_trans HBw5.out hbel)
  have Og_w6 := Lib.hid (Og_w5.out.below hbel (Nat.le_refl _))
  have Ox0_w6 := Lib.hid (Ox0_w5.out.below hbel (Nat.le_refl _))
  have zw6 := hbel.size
  have CZw6 := Lib.hid (cells3_below CZ.out HBw6.out)
  clear hbel
  go_wp2_with fail
  refine (eqGateS_any _ _ _ _ _ _ _ _ _ (sl_of_own_at enc3_len Or.out HML.out) (sl_of_own_at enc3_len Og_w6.out HML.out) (by omega) (by omega)).mono ?_
  intro e w7 hp
  obtain ⟨rfl, hbel⟩ := hp.yes rfl
  clear hp
  have HBw7 := Lib.hid (below_trans HBw6.out hbel)
  have Og_w7 := Lib.hid (Og_w6.out.below hbel (Nat.le_refl _))
  have Ox0_w7 := Lib.hid (Ox0_w6.out.below hbel (Nat.le_refl _))
  have Or_w7 := Lib.hid (Or.out.below hbel (Nat.le_refl _))
  have zw7 := hbel.size
  have CZw7 := Lib.hid (cells3_below CZ.out HBw7.out)
  clear hbel
  go_wp2_with fail
  refine (toGateS_any A0 len0 cap0 xs0 _ (H0.out.below HBw7.out) (by omega)).mono ?_
  rintro e w8 ⟨vw8, rfl, hown, hbel⟩
  obtain ⟨Ay0, cy0, rfl, hsl, hlcy0⟩ := hown.slc enc3_len H0.out.len
  have Ly0 := Lib.hid hown.lt
  have Oy0 := Lib.hid hown
  clear hown hsl
  have HBw8 := Lib.hid (below_trans HBw7.out hbel)
  have Og_w8 := Lib.hid (Og_w7.out.below hbel (Nat.le_refl _))
  have Ox0_w8 := Lib.hid (Ox0_w7.out.below hbel (Nat.le_refl _))
  have Or_w8 := Lib.hid (Or_w7.out.below hbel (Nat.le_refl _))
  have zw8 := hbel.size
  have CZw8 := Lib.hid (cells3_below CZ.out HBw8.out)
  clear hbel
  go_wp2_with fail
  refine (eqGateS_any _ _ _ _ _ _ _ _ _ (sl_of_own_at enc3_len Ox0_w8.out H0.out.len) (sl_of_own_at enc3_len Oy0.out H0.out.len) (by omega) (by omega)).mono ?_
  intro e w9 hp
  obtain ⟨rfl, hbel⟩ := hp.yes rfl
  clear hp
  have HBw9 := Lib.hid (below_trans HBw8.out hbel)
  have Og_w9 := Lib.hid (Og_w8.out.below hbel (Nat.le_refl _))
  have Ox0_w9 := Lib.hid (Ox0_w8.out.below hbel (Nat.le_refl _))
  have Or_w9 := Lib.hid (Or_w8.out.below hbel (Nat.le_refl _))
  have Oy0_w9 := Lib.hid (Oy0.out.below hbel (Nat.le_refl _))
  have zw9 := hbel.size
  have CZw9 := Lib.hid (cells3_below CZ.out HBw9.out)
  clear hbel
  clear Oy0_w9 Ly0
  go_wp2_with fail
  refine (markGateS_any _ _ _ _ _ _ _ Ox0_w9.out H0.out.len (by omega) (by omega) (by omega)).mono ?_
  rintro e w10 ⟨rfl, hown, hg⟩
  have HBw10 := Lib.hid (HBw9.out.grown hg HBw9.out.size (fun j hj => Nat.le_trans (by omega) (Lx0.out j hj).1))
  have zw10 := hg.size
  have CZw10 := Lib.hid (cells3_below CZ.out HBw10.out)
  have Og_w10 := Lib.hid (Og_w9.out.apart hg (own_sep Lg.out Lx0.out (by omega)))
  have Or_w10 := Lib.hid (Or_w9.out.apart hg (own_sep Lr.out Lx0.out (by omega)))
  have Mx0 := Lib.hid hown
  clear hown hg
  clear Mx0 Lx0
  go_wp2_with fail
  refine (eqGateS_any _ _ _ _ _ _ _ _ _ (sl_of_own_at enc3_len Or_w10.out HML.out) (sl_of_own_at enc3_len Og_w10.out HML.out) (by omega) (by omega)).mono ?_
  intro e w11 hp
  obtain ⟨rfl, hbel⟩ := hp.yes rfl
  clear hp
  have HBw11 := Lib.hid (below_trans HBw10.out hbel)
  have Og_w11 := Lib.hid (Og_w10.out.below hbel (Nat.le_refl _))
  have Or_w11 := Lib.hid (Or_w10.out.below hbel (Nat.le_refl _))
  have zw11 := hbel.size
  have CZw11 := Lib.hid (cells3_below CZ.out HBw11.out)
  clear hbel
  go_wp2_with fail
  refine (markGateS_any _ _ _ _ _ _ _ Or_w11.out HML.out (by omega) (by omega) (by omega)).mono ?_
  rintro e w12 ⟨rfl, hown, hg⟩
  have HBw12 := Lib.hid (HBw11.out.grown hg HBw11.out.size (fun j hj => Nat.le_trans (by omega) (Lr.out j hj).1))
  have zw12 := hg.size
  have CZw12 := Lib.hid (cells3_below CZ.out HBw12.out)
  have Og_w12 := Lib.hid (Og_w11.out.apart hg (own_sep Lg.out Lr.out (by omega)))
  have Mr := Lib.hid hown
  clear hown hg
  go_wp2_with fail
  refine (heldGateS_any _ _ _ 1 _ (sl_of_own_at enc3_len Mr.out (by simp [marks3])) (by omega) (by omega) (by omega)).mono ?_
  rintro e w9 ⟨rfl, rfl⟩
  go_wp2_with fail
  have CK := CZw12.out
  have HDh := Lib.hid (below_drew HBw12.out)
  have Og_dh := Lib.hid (Og_w12.out.drew)
  have Or_dh := Lib.hid (Mr.out.drew)
  have zdh : w12.heap.size ≤ w12.drew.heap.size := Nat.le_refl _
  go_region_held3 (fun w' => w'.cell? ⟨w.heap.size, 0, none⟩ = some (.int .i64 x1) ∧ w'.cell? ⟨w.heap.size, 1, none⟩ = some (.int .i64 y1) ∧ w'.cell? ⟨w.heap.size, 2, none⟩ = some (.int .i64 z1))
    (first | exact CK.2 | exact CZw13.out.2 | exact CZw14.out.2 | exact CZw15.out.2)
    (first | (go_at_call 15; refine (toGateS_any A0 len0 cap0 xs0 _ (H0.out.below HDh.out) bg).mono ?_; rintro e w13 ⟨vw13, rfl, hown, hbel⟩; obtain ⟨Au0, cu0, rfl, hsl, hlcu0⟩ := hown.slc enc3_len H0.out.len; have Lu0 := Lib.hid hown.lt; have Ou0 := Lib.hid hown; clear hown hsl; have HBw13 := Lib.hid (below_trans HDh.out hbel); have Og_w13 := Lib.hid (Og_dh.out.below hbel (Nat.le_refl _)); have Or_w13 := Lib.hid (Or_dh.out.below hbel (Nat.le_refl _)); have zw13 := hbel.size; have CZw13 := Lib.hid (cells3_below CZ.out HBw13.out); clear hbel) | (go_at_call 28; refine (toGate_any x1 y1 z1 _).mono ?_; rintro e w14 ⟨rfl, hbel⟩; have HBw14 := Lib.hid (below_trans HBw13.out hbel); have Og_w14 := Lib.hid (Og_w13.out.below hbel (Nat.le_refl _)); have Or_w14 := Lib.hid (Or_w13.out.below hbel (Nat.le_refl _)); have Ou0_w14 := Lib.hid (Ou0.out.below hbel (Nat.le_refl _)); have zw14 := hbel.size; have CZw14 := Lib.hid (cells3_below CZ.out HBw14.out); clear hbel) | (go_at_call 29; refine (HIM.out Au0 len0 cu0 _ (sl_of_own_at enc3_len Ou0_w14.out H0.out.len) bg0 hlcu0).mono ?_; rintro e w15 ⟨vw15, rfl, hown, hbel⟩; obtain ⟨Ah, ch, rfl, hsl, hlch⟩ := hown.slc enc3_len HML.out; have Lh := Lib.hid hown.lt; have Oh := Lib.hid hown; clear hown hsl; have HBw15 := Lib.hid (below_trans HBw14.out hbel); have Og_w15 := Lib.hid (Og_w14.out.below hbel (Nat.le_refl _)); have Or_w15 := Lib.hid (Or_w14.out.below hbel (Nat.le_refl _)); have Ou0_w15 := Lib.hid (Ou0_w14.out.below hbel (Nat.le_refl _)); have zw15 := hbel.size; have CZw15 := Lib.hid (cells3_below CZ.out HBw15.out); clear hbel))
  all_goals skip
  clear CK
  go_wp2_with fail
  refine (eqGateS_any _ _ _ _ _ _ _ _ _ (sl_of_own_at enc3_len Oh.out HML.out) (sl_of_own_at enc3_len Og_w15.out HML.out) (by omega) (by omega)).mono ?_
  intro e w16 hp
  obtain ⟨rfl, hbel⟩ := hp.yes rfl
  clear hp
  have HBw16 := Lib.hid (below_trans HBw15.out hbel)
  have Og_w16 := Lib.hid (Og_w15.out.below hbel (Nat.le_refl _))
  have Or_w16 := Lib.hid (Or_w15.out.below hbel (Nat.le_refl _))
  have Ou0_w16 := Lib.hid (Ou0_w15.out.below hbel (Nat.le_refl _))
  have Oh_w16 := Lib.hid (Oh.out.below hbel (Nat.le_refl _))
  have zw16 := hbel.size
  have CZw16 := Lib.hid (cells3_below CZ.out HBw16.out)
  clear hbel
  go_wp2_with fail
  refine (heldGateS_any _ _ _ 1 _ (sl_of_own_at enc3_len Or_w16.out (by simp [marks3])) (by omega) (by omega) (by omega)).mono ?_
  rintro e w9 ⟨rfl, rfl⟩
  go_wp2_with fail
  go_ret
  exact ⟨rfl, ZB.out.trans (HBw16.out.mono ZB.out.size)⟩
end Go.Proofs.Ytjlbikfobdbibaa
