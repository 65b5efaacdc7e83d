/- Walk of FnExactTollLeast. -/
import Derived.Test.YtjlbikfobdbibaaTBothL
import Derived.Test.YtjlbikfobdbibaaGEx
set_option linter.unusedVariables false
namespace Go.Proofs.Ytjlbikfobdbibaa
open Go.RowKit

set_option maxHeartbeats 3200000 in
theorem lawFnExactTollLeast_walk (A0 : Option Addr) (len0 cap0 : Nat) (xs0 : List T3) (a1 : Int) (a2 : Int) (a3 : Int) (w : World) (h0 : SlE 3 enc3 w A0 len0 xs0) (hm0 : len0 ≤ 9223372036854775807) :
    Calls Try.prog 11 #[.slice A0 len0 cap0, .int .i64 a1, .int .i64 a2, .int .i64 a3] w (Only (.bool true) w) := by
  have H0 := Lib.hid h0
  clear h0
  by_cases hbig0 : (len0 : Int) ≤ 1048576
  rotate_left
  · skip
    go_enter Try.func11, Try.ntmps11
    go_wp2_with fail
    refine (szGateS_no _ _ _ _ _ (by omega) (by omega) (by omega) hm0).mono ?_
    rintro e w2 ⟨rfl, rfl⟩
    go_wp2_with fail
    go_ret
    exact ⟨rfl, Below.refl _ _⟩
  have bg : len0 ≤ 16777216 := by omega
  have bg0 : len0 ≤ 1048576 := by omega
  clear bg
  obtain ⟨V, hsp, him⟩ := tleast_both a1 a2 a3 xs0
  have HSP := Lib.hid hsp
  have HIM := Lib.hid him
  clear hsp him
  go_enter Try.func11, Try.ntmps11
  go_wp2_with fail
  refine (szGateS_yes _ _ _ _ _ (by omega) (by omega)).mono ?_
  rintro e w0 ⟨rfl, rfl⟩
  have z0 : w.heap.size ≤ w.heap.size := Nat.le_refl _
  go_wp2_with fail
  refine (toGateS_any A0 len0 cap0 xs0 _ (H0.out.below (Lib.hid (Below.refl w.heap.size w)).out) (by omega)).mono ?_
  rintro e w1 ⟨vw1, rfl, hown, hbel⟩
  obtain ⟨Ap0, cp0, rfl, hsl, hlcp0⟩ := hown.slc enc3_len H0.out.len
  have Lp0 := Lib.hid hown.lt
  have Op0 := Lib.hid hown
  clear hown hsl
  have HBw1 := Lib.hid (below_trans (Lib.hid (Below.refl w.heap.size w)).out hbel)
  have zw1 := hbel.size
  clear hbel
  go_wp2_with fail
  refine (HSP.out Ap0 len0 cp0 _ (sl_of_own_at enc3_len Op0.out H0.out.len) bg0 hlcp0).mono ?_
  rintro e w2 ⟨rfl, hbel⟩
  have HBw2 := Lib.hid (below_trans HBw1.out hbel)
  have Op0_w2 := Lib.hid (Op0.out.below hbel (Nat.le_refl _))
  have zw2 := hbel.size
  clear hbel
  clear Op0_w2 Lp0
  go_wp2_with fail
  refine (toGateS_any A0 len0 cap0 xs0 _ (H0.out.below HBw2.out) (by omega)).mono ?_
  rintro e w3 ⟨vw3, rfl, hown, hbel⟩
  obtain ⟨Ax0, cx0, rfl, hsl, hlcx0⟩ := hown.slc enc3_len H0.out.len
  have Lx0 := Lib.hid hown.lt
  have Ox0 := Lib.hid hown
  clear hown hsl
  have HBw3 := Lib.hid (below_trans HBw2.out hbel)
  have zw3 := hbel.size
  clear hbel
  go_wp2_with fail
  refine (HIM.out Ax0 len0 cx0 _ (sl_of_own_at enc3_len Ox0.out H0.out.len) bg0 hlcx0).mono ?_
  rintro e w4 ⟨rfl, hbel⟩
  have HBw4 := Lib.hid (below_trans HBw3.out hbel)
  have Ox0_w4 := Lib.hid (Ox0.out.below hbel (Nat.le_refl _))
  have zw4 := hbel.size
  clear hbel
  go_wp2_with fail
  refine (toGateS_any A0 len0 cap0 xs0 _ (H0.out.below HBw4.out) (by omega)).mono ?_
  rintro e w5 ⟨vw5, rfl, hown, hbel⟩
  obtain ⟨Ay0, cy0, rfl, hsl, hlcy0⟩ := hown.slc enc3_len H0.out.len
  have Ly0 := Lib.hid hown.lt
  have Oy0 := Lib.hid hown
  clear hown hsl
  have HBw5 := Lib.hid (below_trans HBw4.out hbel)
  have Ox0_w5 := Lib.hid (Ox0_w4.out.below hbel (Nat.le_refl _))
  have zw5 := hbel.size
  clear hbel
  go_wp2_with fail
  refine (eqGateS_any _ _ _ _ _ _ _ _ _ (sl_of_own_at enc3_len Ox0_w5.out H0.out.len) (sl_of_own_at enc3_len Oy0.out H0.out.len) (by omega) (by omega)).mono ?_
  intro e w6 hp
  obtain ⟨rfl, hbel⟩ := hp.yes rfl
  clear hp
  have HBw6 := Lib.hid (below_trans HBw5.out hbel)
  have Ox0_w6 := Lib.hid (Ox0_w5.out.below hbel (Nat.le_refl _))
  have Oy0_w6 := Lib.hid (Oy0.out.below hbel (Nat.le_refl _))
  have zw6 := hbel.size
  clear hbel
  clear Oy0_w6 Ly0
  go_wp2_with fail
  go_ret
  exact ⟨rfl, HBw6.out⟩
end Go.Proofs.Ytjlbikfobdbibaa
