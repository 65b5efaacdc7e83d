/- Walk of FnExecuteNone. -/
import Derived.Test.YtgjllminidlolaaGreatDoorVAZ
import Derived.Test.YtgjllminidlolaaGreatDoorVBB
set_option linter.unusedVariables false
namespace Go.Proofs.YtgjllminidlolaaGreatDoor
open Go.RowKit

set_option maxRecDepth 20000 in
set_option maxHeartbeats 6400000 in
theorem lawFnExecuteNone_walk (A0 : Option Addr) (len0 cap0 : Nat) (xs0 : List Int) (w : World) (hm : Env w) (h0 : SlE 1 encU w A0 len0 xs0) (hb0 : Bytes xs0) (hc0 : len0 ≤ cap0) :
    Calls Tryz.prog 3 #[.slice A0 len0 cap0] w (Only (.bool true) w) := by
  have H0 := Lib.hid h0
  have HB0 := Lib.hid hb0
  have HM := Lib.hid hm
  clear h0 hb0 hm
  by_cases hbig : (len0 : Int) ≤ 1048576
  rotate_left
  · go_enter Tryz.func3, Tryz.ntmps3
    go_wp2_with fail
    go_ret
    exact ⟨rfl, Below.refl _ _⟩
  have HDR := Lib.hid (drawExecute_any A0 len0 cap0 xs0 w H0.out HB0.out (by omega) hc0)
  clear H0 HB0
  go_enter Tryz.func3, Tryz.ntmps3
  go_wp2_with fail
  refine HDR.out.mono ?_
  rintro e w1 ⟨t, rfl, ht, hb⟩
  have B1 := Lib.hid hb
  obtain ⟨ls, last, hcut, hpart, h10, hls⟩ := cut_parts t.data.toList
  have hlen : (textOf ls).length ≤ t.size := by
    have h1 : t.size = t.data.toList.length := by simp
    rw [h1, hpart, List.length_append]
    omega
  have HLS := Lib.hid hls
  have HCUT := Lib.hid hcut
  have HLN := Lib.hid hlen
  have HCM := Lib.hid (fun W => complete_any t ls last W (by omega) hpart h10)
  have HI1 := Lib.hid (fun W hE => implExec t W hE)
  have HS1 := Lib.hid (fun W => specExec t W)
  have HT := Lib.hid ht
  obtain ⟨n, hn⟩ : ∃ n, t.size = n := ⟨_, rfl⟩
  have HN := Lib.hid hn
  clear hb hcut hpart h10 hls hlen HDR ht
  by_cases hlong : (500 : Int) < (n : Int)
  · rw [exec_long (by have := HN.out; omega)] at HI1 HS1
    go_wp2_with fail
    refine (HI1.out _ (HM.out.later B1.out)).mono ?_
    rintro e w2 ⟨rfl, hb⟩
    have B2 := Lib.hid (below_trans B1.out hb)
    clear hb
    go_wp2_with fail
    refine (HS1.out _).mono ?_
    rintro e w3 ⟨rfl, hb⟩
    have B3 := Lib.hid (below_trans B2.out hb)
    clear hb
    go_wp2_with fail
    go_ret
    exact ⟨rfl, B3.out⟩
  have hex := exec_part (s := t) (by have := HN.out; omega) HCUT.out
  rw [hex] at HI1 HS1
  have HI2 := Lib.hid (fun W hE => implExec ⟨#[]⟩ W hE)
  rw [exec_nil] at HI2
  have HI3 := Lib.hid (fun W hE => implExec (bs (textOf ls)) W hE)
  rw [exec_lines HLS.out (by have := HN.out; have := HLN.out; omega)] at HI3
  have dn : ((bs (scriptOut ls)).toList == []) = false := by rw [ByteArray.toList_eq, bs_data]; simpa using script_ne ls
  have dn2 : (bs (scriptOut ls)).toList.isEmpty = false := by rw [ByteArray.toList_eq, bs_data]; simpa using script_ne ls
  clear hex HCUT HLS HLN
  generalize bs (scriptOut ls) = A at *
  generalize bs (textOf ls) = S at *
  have de : (A == A) = true := (MapKept.bytes_beq A A).2 rfl
  go_wp2_with fail
  refine (HI1.out _ (HM.out.later B1.out)).mono ?_
  rintro e w2 ⟨rfl, hb⟩
  have B2 := Lib.hid (below_trans B1.out hb)
  clear hb
  go_wp2_with fail
  refine (HS1.out _).mono ?_
  rintro e w3 ⟨rfl, hb⟩
  have B3 := Lib.hid (below_trans B2.out hb)
  clear hb
  go_wp2_with fail
  refine (HI2.out _ (HM.out.later B3.out)).mono ?_
  rintro e w4 ⟨rfl, hb⟩
  have B4 := Lib.hid (below_trans B3.out hb)
  clear hb
  go_wp2_with fail
  refine (HCM.out _).mono ?_
  rintro e w5 ⟨rfl, hb⟩
  have B5 := Lib.hid (below_trans B4.out hb)
  clear hb
  go_wp2_with fail
  refine (HI3.out _ (HM.out.later B5.out)).mono ?_
  rintro e w6 ⟨rfl, hb⟩
  have B6 := Lib.hid (below_trans B5.out hb)
  clear hb
  go_wp2_with fail
  go_ret
  exact ⟨rfl, B6.out⟩
end Go.Proofs.YtgjllminidlolaaGreatDoor
