/- Walk of FnExactTollSum. -/
import Derived.Test.YtjlbikfobdbibaaTWalkS
import Derived.Test.YtjlbikfobdbibaaTEx
set_option linter.unusedVariables false
namespace Go.Proofs.Ytjlbikfobdbibaa
open Go.RowKit

set_option maxHeartbeats 3200000 in
theorem lawFnExactTollSum_walk (A0 : Option Addr) (len0 cap0 : Nat) (xs0 : List T3) (a1 : Int) (a2 : Int) (a3 : Int) (A4 : Option Addr) (len4 cap4 : Nat) (xs4 : List Int) (w : World) (h0 : SlE 3 enc3 w A0 len0 xs0) (hm0 : len0 ≤ 9223372036854775807) (h4 : SlE 1 encI w A4 len4 xs4) (hm4 : len4 ≤ 9223372036854775807) :
    Calls Try.prog 9 #[.slice A0 len0 cap0, .int .i64 a1, .int .i64 a2, .int .i64 a3, .slice A4 len4 cap4] w (Only (.bool true) w) := by
  have H0 := Lib.hid h0
  have H4 := Lib.hid h4
  clear h0 h4
  by_cases hbig4 : (len4 : Int) ≤ 1048576
  rotate_left
  · skip
    go_enter Try.func9, Try.ntmps9
    go_wp2_with fail
    go_ret
    exact ⟨rfl, Below.refl _ _⟩
  by_cases hbig0 : (len0 : Int) ≤ 1048576
  rotate_left
  · skip
    go_enter Try.func9, Try.ntmps9
    go_wp2_with fail
    refine (szGateS_no _ _ _ _ _ (by omega) (by omega) (by omega) hm0).mono ?_
    rintro e w2 ⟨rfl, rfl⟩
    go_wp2_with fail
    go_ret
    exact ⟨rfl, Below.refl _ _⟩
  have bg : len0 ≤ 16777216 ∧ len4 ≤ 16777216 := by omega
  have bg0 : len0 ≤ 1048576 := by omega
  have bg4 : len4 ≤ 1048576 := by omega
  clear bg
  obtain ⟨V, hsp, him⟩ := tsum_both a1 a2 a3 xs0 xs4
  have HSP := Lib.hid hsp
  have HIM := Lib.hid him
  clear hsp him
  go_enter Try.func9, Try.ntmps9
  go_wp2_with fail
  refine (szGateS_yes _ _ _ _ _ (by omega) (by omega)).mono ?_
  rintro e w0 ⟨rfl, rfl⟩
  have z0 : w.heap.size ≤ w.heap.size := Nat.le_refl _
  go_wp2_with fail
  refine (toGateS_any A0 len0 cap0 xs0 _ (H0.out.below (Lib.hid (Below.refl w.heap.size w)).out) (by omega)).mono ?_
  rintro e w1 ⟨vw1, rfl, hown, hbel⟩
  obtain ⟨Ap0, cp0, rfl, hsl, hlcp0⟩ := hown.slc enc3_len H0.out.len
  have Lp0 := Lib.hid hown.lt
  have Op0 := Lib.hid hown
  clear hown hsl
  have HBw1 := Lib.hid (below_trans (Lib.hid (Below.refl w.heap.size w)).out hbel)
  have zw1 := hbel.size
  clear hbel
  go_wp2_with fail
  refine (toIntS_any A4 len4 cap4 xs4 _ (H4.out.below HBw1.out) (by omega)).mono ?_
  rintro e w2 ⟨vw2, rfl, hown, hbel⟩
  obtain ⟨Ap4, cp4, rfl, hsl, hlcp4⟩ := hown.slc encI_len H4.out.len
  have Lp4 := Lib.hid hown.lt
  have Op4 := Lib.hid hown
  clear hown hsl
  have HBw2 := Lib.hid (below_trans HBw1.out hbel)
  have Op0_w2 := Lib.hid (Op0.out.below hbel (Nat.le_refl _))
  have zw2 := hbel.size
  clear hbel
  go_wp2_with fail
  refine (HSP.out Ap0 len0 cp0 Ap4 len4 cp4 _ (sl_of_own_at enc3_len Op0_w2.out H0.out.len) bg0 hlcp0 (sl_of_own_at encI_len Op4.out H4.out.len) bg4 hlcp4).mono ?_
  rintro e w3 ⟨rfl, hbel⟩
  have HBw3 := Lib.hid (below_trans HBw2.out hbel)
  have Op0_w3 := Lib.hid (Op0_w2.out.below hbel (Nat.le_refl _))
  have Op4_w3 := Lib.hid (Op4.out.below hbel (Nat.le_refl _))
  have zw3 := hbel.size
  clear hbel
  clear Op0_w3 Lp0
  clear Op4_w3 Lp4
  go_wp2_with fail
  refine (toGateS_any A0 len0 cap0 xs0 _ (H0.out.below HBw3.out) (by omega)).mono ?_
  rintro e w4 ⟨vw4, rfl, hown, hbel⟩
  obtain ⟨Ax0, cx0, rfl, hsl, hlcx0⟩ := hown.slc enc3_len H0.out.len
  have Lx0 := Lib.hid hown.lt
  have Ox0 := Lib.hid hown
  clear hown hsl
  have HBw4 := Lib.hid (below_trans HBw3.out hbel)
  have zw4 := hbel.size
  clear hbel
  go_wp2_with fail
  refine (toIntS_any A4 len4 cap4 xs4 _ (H4.out.below HBw4.out) (by omega)).mono ?_
  rintro e w5 ⟨vw5, rfl, hown, hbel⟩
  obtain ⟨Ax4, cx4, rfl, hsl, hlcx4⟩ := hown.slc encI_len H4.out.len
  have Lx4 := Lib.hid hown.lt
  have Ox4 := Lib.hid hown
  clear hown hsl
  have HBw5 := Lib.hid (below_trans HBw4.out hbel)
  have Ox0_w5 := Lib.hid (Ox0.out.below hbel (Nat.le_refl _))
  have zw5 := hbel.size
  clear hbel
  go_wp2_with fail
  refine (HIM.out Ax0 len0 cx0 Ax4 len4 cx4 _ (sl_of_own_at enc3_len Ox0_w5.out H0.out.len) bg0 hlcx0 (sl_of_own_at encI_len Ox4.out H4.out.len) bg4 hlcx4).mono ?_
  rintro e w6 ⟨rfl, hbel⟩
  have HBw6 := Lib.hid (below_trans HBw5.out hbel)
  have Ox0_w6 := Lib.hid (Ox0_w5.out.below hbel (Nat.le_refl _))
  have Ox4_w6 := Lib.hid (Ox4.out.below hbel (Nat.le_refl _))
  have zw6 := hbel.size
  clear hbel
  go_wp2_with fail
  refine (toGateS_any A0 len0 cap0 xs0 _ (H0.out.below HBw6.out) (by omega)).mono ?_
  rintro e w7 ⟨vw7, rfl, hown, hbel⟩
  obtain ⟨Ay0, cy0, rfl, hsl, hlcy0⟩ := hown.slc enc3_len H0.out.len
  have Ly0 := Lib.hid hown.lt
  have Oy0 := Lib.hid hown
  clear hown hsl
  have HBw7 := Lib.hid (below_trans HBw6.out hbel)
  have Ox0_w7 := Lib.hid (Ox0_w6.out.below hbel (Nat.le_refl _))
  have Ox4_w7 := Lib.hid (Ox4_w6.out.below hbel (Nat.le_refl _))
  have zw7 := hbel.size
  clear hbel
  go_wp2_with fail
  refine (eqGateS_any _ _ _ _ _ _ _ _ _ (sl_of_own_at enc3_len Ox0_w7.out H0.out.len) (sl_of_own_at enc3_len Oy0.out H0.out.len) (by omega) (by omega)).mono ?_
  intro e w8 hp
  obtain ⟨rfl, hbel⟩ := hp.yes rfl
  clear hp
  have HBw8 := Lib.hid (below_trans HBw7.out hbel)
  have Ox0_w8 := Lib.hid (Ox0_w7.out.below hbel (Nat.le_refl _))
  have Ox4_w8 := Lib.hid (Ox4_w7.out.below hbel (Nat.le_refl _))
  have Oy0_w8 := Lib.hid (Oy0.out.below hbel (Nat.le_refl _))
  have zw8 := hbel.size
  clear hbel
  clear Oy0_w8 Ly0
  go_wp2_with fail
  refine (toIntS_any A4 len4 cap4 xs4 _ (H4.out.below HBw8.out) (by omega)).mono ?_
  rintro e w9 ⟨vw9, rfl, hown, hbel⟩
  obtain ⟨Ay4, cy4, rfl, hsl, hlcy4⟩ := hown.slc encI_len H4.out.len
  have Ly4 := Lib.hid hown.lt
  have Oy4 := Lib.hid hown
  clear hown hsl
  have HBw9 := Lib.hid (below_trans HBw8.out hbel)
  have Ox0_w9 := Lib.hid (Ox0_w8.out.below hbel (Nat.le_refl _))
  have Ox4_w9 := Lib.hid (Ox4_w8.out.below hbel (Nat.le_refl _))
  have zw9 := hbel.size
  clear hbel
  go_wp2_with fail
  refine (eqIntS_any _ _ _ _ _ _ _ _ _ (sl_of_own_at encI_len Ox4_w9.out H4.out.len) (sl_of_own_at encI_len Oy4.out H4.out.len) (by omega) (by omega)).mono ?_
  intro e w10 hp
  obtain ⟨rfl, hbel⟩ := hp.yes rfl
  clear hp
  have HBw10 := Lib.hid (below_trans HBw9.out hbel)
  have Ox0_w10 := Lib.hid (Ox0_w9.out.below hbel (Nat.le_refl _))
  have Ox4_w10 := Lib.hid (Ox4_w9.out.below hbel (Nat.le_refl _))
  have Oy4_w10 := Lib.hid (Oy4.out.below hbel (Nat.le_refl _))
  have zw10 := hbel.size
  clear hbel
  clear Oy4_w10 Ly4
  go_wp2_with fail
  go_ret
  exact ⟨rfl, HBw10.out⟩
end Go.Proofs.Ytjlbikfobdbibaa
