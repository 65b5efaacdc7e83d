/- Walk of FnExactBillNested. -/
import Derived.Test.YtcfdccjpbkcigaaStkR
import Derived.Test.YtcfdccjpbkcigaaEx
set_option linter.unusedVariables false
namespace Go.Proofs.Ytcfdccjpbkcigaa
open Go.RowKit

set_option maxHeartbeats 3200000 in
theorem lawFnExactBillNested_walk (a0 : Int) (A1 : Option Addr) (len1 cap1 : Nat) (xs1 : List T3) (w : World) (h1 : SlE 3 enc3 w A1 len1 xs1) (hm1 : len1 ≤ 9223372036854775807) :
    Calls Try.prog 12 #[.int .i64 a0, .slice A1 len1 cap1] w (Only (.bool true) w) := by
  have H1 := Lib.hid h1
  clear h1
  by_cases hbig1 : (len1 : Int) ≤ 1048576
  rotate_left
  · skip
    go_enter Try.func12, Try.ntmps12
    go_wp2_with fail
    refine (szParcelS_no _ _ _ _ _ (by omega) (by omega) (by omega) hm1).mono ?_
    rintro e w2 ⟨rfl, rfl⟩
    go_wp2_with fail
    go_ret
    exact ⟨rfl, Below.refl _ _⟩
  have bg : len1 ≤ 16777216 := by omega
  have bg1 : len1 ≤ 1048576 := by omega
  clear bg
  obtain ⟨V, hsp, him⟩ := nested_both a0 xs1 (by rw [H1.out.len]; exact bg1)
  have HSP := Lib.hid hsp
  have HIM := Lib.hid him
  clear hsp him
  go_enter Try.func12, Try.ntmps12
  go_wp2_with fail
  refine (szParcelS_yes _ _ _ _ _ (by omega) (by omega)).mono ?_
  rintro e w0 ⟨rfl, rfl⟩
  have z0 : w.heap.size ≤ w.heap.size := Nat.le_refl _
  go_wp2_with fail
  refine (toParcelS_any A1 len1 cap1 xs1 _ (H1.out.below (Lib.hid (Below.refl w.heap.size w)).out) (by omega)).mono ?_
  rintro e w1 ⟨vw1, rfl, hown, hbel⟩
  obtain ⟨Ap1, cp1, rfl, hsl, hlcp1⟩ := hown.slc enc3_len H1.out.len
  have Lp1 := Lib.hid hown.lt
  have Op1 := Lib.hid hown
  clear hown hsl
  have HBw1 := Lib.hid (below_trans (Lib.hid (Below.refl w.heap.size w)).out hbel)
  have zw1 := hbel.size
  clear hbel
  go_wp2_with fail
  refine (HSP.out Ap1 len1 cp1 _ (sl_of_own_at enc3_len Op1.out H1.out.len) bg1 hlcp1).mono ?_
  rintro e w2 ⟨rfl, hbel⟩
  have HBw2 := Lib.hid (below_trans HBw1.out hbel)
  have Op1_w2 := Lib.hid (Op1.out.below hbel (Nat.le_refl _))
  have zw2 := hbel.size
  clear hbel
  clear Op1_w2 Lp1
  go_wp2_with fail
  refine (toParcelS_any A1 len1 cap1 xs1 _ (H1.out.below HBw2.out) (by omega)).mono ?_
  rintro e w3 ⟨vw3, rfl, hown, hbel⟩
  obtain ⟨Ax1, cx1, rfl, hsl, hlcx1⟩ := hown.slc enc3_len H1.out.len
  have Lx1 := Lib.hid hown.lt
  have Ox1 := Lib.hid hown
  clear hown hsl
  have HBw3 := Lib.hid (below_trans HBw2.out hbel)
  have zw3 := hbel.size
  clear hbel
  go_wp2_with fail
  refine (HIM.out Ax1 len1 cx1 _ (sl_of_own_at enc3_len Ox1.out H1.out.len) bg1 hlcx1).mono ?_
  rintro e w4 ⟨rfl, hbel⟩
  have HBw4 := Lib.hid (below_trans HBw3.out hbel)
  have Ox1_w4 := Lib.hid (Ox1.out.below hbel (Nat.le_refl _))
  have zw4 := hbel.size
  clear hbel
  go_wp2_with fail
  refine (toParcelS_any A1 len1 cap1 xs1 _ (H1.out.below HBw4.out) (by omega)).mono ?_
  rintro e w5 ⟨vw5, rfl, hown, hbel⟩
  obtain ⟨Ay1, cy1, rfl, hsl, hlcy1⟩ := hown.slc enc3_len H1.out.len
  have Ly1 := Lib.hid hown.lt
  have Oy1 := Lib.hid hown
  clear hown hsl
  have HBw5 := Lib.hid (below_trans HBw4.out hbel)
  have Ox1_w5 := Lib.hid (Ox1_w4.out.below hbel (Nat.le_refl _))
  have zw5 := hbel.size
  clear hbel
  go_wp2_with fail
  refine (eqParcelS_any _ _ _ _ _ _ _ _ _ (sl_of_own_at enc3_len Ox1_w5.out H1.out.len) (sl_of_own_at enc3_len Oy1.out H1.out.len) (by omega) (by omega)).mono ?_
  intro e w6 hp
  obtain ⟨rfl, hbel⟩ := hp.yes rfl
  clear hp
  have HBw6 := Lib.hid (below_trans HBw5.out hbel)
  have Ox1_w6 := Lib.hid (Ox1_w5.out.below hbel (Nat.le_refl _))
  have Oy1_w6 := Lib.hid (Oy1.out.below hbel (Nat.le_refl _))
  have zw6 := hbel.size
  clear hbel
  clear Oy1_w6 Ly1
  go_wp2_with fail
  go_ret
  exact ⟨rfl, HBw6.out⟩
end Go.Proofs.Ytcfdccjpbkcigaa
