/- Walk of FnExactSeatingValid. -/
import Derived.Test.YtkknfhabfmpogaaSBoth
import Derived.Test.YtkknfhabfmpogaaExB
set_option linter.unusedVariables false
namespace Go.Proofs.Ytkknfhabfmpogaa
open Go.RowKit

set_option maxRecDepth 20000 in
set_option maxHeartbeats 3200000 in
theorem lawFnExactSeatingValid_walk (a0 : Int) (A1 : Option Addr) (len1 cap1 : Nat) (xs1 : List B3) (A2 : Option Addr) (len2 cap2 : Nat) (xs2 : List Int) (w : World) (h1 : SlE 3 encB w A1 len1 xs1) (hm1 : len1 ≤ 9223372036854775807) (h2 : SlE 1 encI w A2 len2 xs2) (hm2 : len2 ≤ 9223372036854775807) :
    Calls Try.prog 4 #[.int .i64 a0, .slice A1 len1 cap1, .slice A2 len2 cap2] w (Only (.bool true) w) := by
  have H1 := Lib.hid h1
  have H2 := Lib.hid h2
  clear h1 h2
  by_cases hbig2 : (len2 : Int) ≤ 1048576
  rotate_left
  · skip
    go_enter Try.func4, Try.ntmps4
    go_wp2_with fail
    go_ret
    exact ⟨rfl, Below.refl _ _⟩
  by_cases hbig1 : (len1 : Int) ≤ 1048576
  rotate_left
  · skip
    go_enter Try.func4, Try.ntmps4
    go_wp2_with fail
    refine (szBookingS_no _ _ _ _ _ (by omega) (by omega) (by omega) hm1).mono ?_
    rintro e w2 ⟨rfl, rfl⟩
    go_wp2_with fail
    go_ret
    exact ⟨rfl, Below.refl _ _⟩
  have bg : len1 ≤ 16777216 ∧ len2 ≤ 16777216 := by omega
  have bg1 : len1 ≤ 1048576 := by omega
  have bg2 : len2 ≤ 1048576 := by omega
  clear bg
  obtain ⟨V, hsp, him⟩ := svalid_both a0 xs1 xs2
  have HSP := Lib.hid hsp
  have HIM := Lib.hid him
  clear hsp him
  go_enter Try.func4, Try.ntmps4
  go_wp2_with fail
  refine (szBookingS_yes _ _ _ _ _ (by omega) (by omega)).mono ?_
  rintro e w0 ⟨rfl, rfl⟩
  have z0 : w.heap.size ≤ w.heap.size := Nat.le_refl _
  go_wp2_with fail
  refine (toBookingS_any A1 len1 cap1 xs1 _ (H1.out.below (Lib.hid (Below.refl w.heap.size w)).out) (by omega)).mono ?_
  rintro e w1 ⟨vw1, rfl, hown, hbel⟩
  obtain ⟨Ap1, cp1, rfl, hsl, hlcp1⟩ := hown.slc encB_len H1.out.len
  have Lp1 := Lib.hid hown.lt
  have Op1 := Lib.hid hown
  clear hown hsl
  have HBw1 := Lib.hid (below_trans (Lib.hid (Below.refl w.heap.size w)).out hbel)
  have zw1 := hbel.size
  clear hbel
  go_wp2_with fail
  refine (toIntS_any A2 len2 cap2 xs2 _ (H2.out.below HBw1.out) (by omega)).mono ?_
  rintro e w2 ⟨vw2, rfl, hown, hbel⟩
  obtain ⟨Ap2, cp2, rfl, hsl, hlcp2⟩ := hown.slc encI_len H2.out.len
  have Lp2 := Lib.hid hown.lt
  have Op2 := Lib.hid hown
  clear hown hsl
  have HBw2 := Lib.hid (below_trans HBw1.out hbel)
  have Op1_w2 := Lib.hid (Op1.out.below hbel (Nat.le_refl _))
  have zw2 := hbel.size
  clear hbel
  go_wp2_with fail
  refine (HSP.out Ap1 len1 cp1 Ap2 len2 cp2 _ (sl_of_own_at encB_len Op1_w2.out H1.out.len) bg1 hlcp1 (sl_of_own_at encI_len Op2.out H2.out.len) bg2 hlcp2).mono ?_
  rintro e w3 ⟨rfl, hbel⟩
  have HBw3 := Lib.hid (below_trans HBw2.out hbel)
  have Op1_w3 := Lib.hid (Op1_w2.out.below hbel (Nat.le_refl _))
  have Op2_w3 := Lib.hid (Op2.out.below hbel (Nat.le_refl _))
  have zw3 := hbel.size
  clear hbel
  clear Op1_w3 Lp1
  clear Op2_w3 Lp2
  go_wp2_with fail
  refine (toBookingS_any A1 len1 cap1 xs1 _ (H1.out.below HBw3.out) (by omega)).mono ?_
  rintro e w4 ⟨vw4, rfl, hown, hbel⟩
  obtain ⟨Ax1, cx1, rfl, hsl, hlcx1⟩ := hown.slc encB_len H1.out.len
  have Lx1 := Lib.hid hown.lt
  have Ox1 := Lib.hid hown
  clear hown hsl
  have HBw4 := Lib.hid (below_trans HBw3.out hbel)
  have zw4 := hbel.size
  clear hbel
  go_wp2_with fail
  refine (toIntS_any A2 len2 cap2 xs2 _ (H2.out.below HBw4.out) (by omega)).mono ?_
  rintro e w5 ⟨vw5, rfl, hown, hbel⟩
  obtain ⟨Ax2, cx2, rfl, hsl, hlcx2⟩ := hown.slc encI_len H2.out.len
  have Lx2 := Lib.hid hown.lt
  have Ox2 := Lib.hid hown
  clear hown hsl
  have HBw5 := Lib.hid (below_trans HBw4.out hbel)
  have Ox1_w5 := Lib.hid (Ox1.out.below hbel (Nat.le_refl _))
  have zw5 := hbel.size
  clear hbel
  go_wp2_with fail
  refine (HIM.out Ax1 len1 cx1 Ax2 len2 cx2 _ (sl_of_own_at encB_len Ox1_w5.out H1.out.len) bg1 hlcx1 (sl_of_own_at encI_len Ox2.out H2.out.len) bg2 hlcx2).mono ?_
  rintro e w6 ⟨rfl, hbel⟩
  have HBw6 := Lib.hid (below_trans HBw5.out hbel)
  have Ox1_w6 := Lib.hid (Ox1_w5.out.below hbel (Nat.le_refl _))
  have Ox2_w6 := Lib.hid (Ox2.out.below hbel (Nat.le_refl _))
  have zw6 := hbel.size
  clear hbel
  go_wp2_with fail
  refine (toBookingS_any A1 len1 cap1 xs1 _ (H1.out.below HBw6.out) (by omega)).mono ?_
  rintro e w7 ⟨vw7, rfl, hown, hbel⟩
  obtain ⟨Ay1, cy1, rfl, hsl, hlcy1⟩ := hown.slc encB_len H1.out.len
  have Ly1 := Lib.hid hown.lt
  have Oy1 := Lib.hid hown
  clear hown hsl
  have HBw7 := Lib.hid (below_trans HBw6.out hbel)
  have Ox1_w7 := Lib.hid (Ox1_w6.out.below hbel (Nat.le_refl _))
  have Ox2_w7 := Lib.hid (Ox2_w6.out.below hbel (Nat.le_refl _))
  have zw7 := hbel.size
  clear hbel
  go_wp2_with fail
  refine (eqBookingS_any _ _ _ _ _ _ _ _ _ (sl_of_own_at encB_len Ox1_w7.out H1.out.len) (sl_of_own_at encB_len Oy1.out H1.out.len) (by omega) (by omega)).mono ?_
  intro e w8 hp
  obtain ⟨rfl, hbel⟩ := hp.yes rfl
  clear hp
  have HBw8 := Lib.hid (below_trans HBw7.out hbel)
  have Ox1_w8 := Lib.hid (Ox1_w7.out.below hbel (Nat.le_refl _))
  have Ox2_w8 := Lib.hid (Ox2_w7.out.below hbel (Nat.le_refl _))
  have Oy1_w8 := Lib.hid (Oy1.out.below hbel (Nat.le_refl _))
  have zw8 := hbel.size
  clear hbel
  clear Oy1_w8 Ly1
  go_wp2_with fail
  refine (toIntS_any A2 len2 cap2 xs2 _ (H2.out.below HBw8.out) (by omega)).mono ?_
  rintro e w9 ⟨vw9, rfl, hown, hbel⟩
  obtain ⟨Ay2, cy2, rfl, hsl, hlcy2⟩ := hown.slc encI_len H2.out.len
  have Ly2 := Lib.hid hown.lt
  have Oy2 := Lib.hid hown
  clear hown hsl
  have HBw9 := Lib.hid (below_trans HBw8.out hbel)
  have Ox1_w9 := Lib.hid (Ox1_w8.out.below hbel (Nat.le_refl _))
  have Ox2_w9 := Lib.hid (Ox2_w8.out.below hbel (Nat.le_refl _))
  have zw9 := hbel.size
  clear hbel
  go_wp2_with fail
  refine (eqIntS_any _ _ _ _ _ _ _ _ _ (sl_of_own_at encI_len Ox2_w9.out H2.out.len) (sl_of_own_at encI_len Oy2.out H2.out.len) (by omega) (by omega)).mono ?_
  intro e w10 hp
  obtain ⟨rfl, hbel⟩ := hp.yes rfl
  clear hp
  have HBw10 := Lib.hid (below_trans HBw9.out hbel)
  have Ox1_w10 := Lib.hid (Ox1_w9.out.below hbel (Nat.le_refl _))
  have Ox2_w10 := Lib.hid (Ox2_w9.out.below hbel (Nat.le_refl _))
  have Oy2_w10 := Lib.hid (Oy2.out.below hbel (Nat.le_refl _))
  have zw10 := hbel.size
  clear hbel
  clear Oy2_w10 Ly2
  go_wp2_with fail
  go_ret
  exact ⟨rfl, HBw10.out⟩
end Go.Proofs.Ytkknfhabfmpogaa
