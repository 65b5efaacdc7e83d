/- Walk of FnExactExecute. -/
import Derived.Test.YtgjllminidlolaaGreatDoorVAZ
set_option linter.unusedVariables false
namespace Go.Proofs.YtgjllminidlolaaGreatDoor
open Go.RowKit

set_option maxRecDepth 20000 in
set_option maxHeartbeats 1600000 in
theorem lawFnExactExecute_walk (s0 : ByteArray) (w : World) (hm : Env w) (h0 : s0.size ≤ maxLen) :
    Calls Tryz.prog 9 #[.string s0] w (Only (.bool true) w) := by
  have HM := Lib.hid hm
  clear hm h0
  by_cases hbig : (s0.size : Int) ≤ 1048576
  rotate_left
  · go_enter Tryz.func9, Tryz.ntmps9
    go_wp2_with fail
    go_ret
    exact ⟨rfl, Below.refl _ _⟩
  have HI := Lib.hid (fun W hE => implExec s0 W hE)
  have HS := Lib.hid (specExec s0 w)
  generalize bs (execL s0) = T at *
  go_enter Tryz.func9, Tryz.ntmps9
  go_wp2_with fail
  refine HS.out.mono ?_
  rintro e w1 ⟨rfl, hb1⟩
  have HB1 := Lib.hid hb1
  clear hb1
  go_wp2_with fail
  refine (HI.out w1 (HM.out.later HB1.out)).mono ?_
  rintro e w2 ⟨rfl, hb2⟩
  have HB2 := Lib.hid (below_trans HB1.out hb2)
  clear hb2
  go_wp2_with fail
  go_ret
  exact ⟨rfl, HB2.out⟩
end Go.Proofs.YtgjllminidlolaaGreatDoor
