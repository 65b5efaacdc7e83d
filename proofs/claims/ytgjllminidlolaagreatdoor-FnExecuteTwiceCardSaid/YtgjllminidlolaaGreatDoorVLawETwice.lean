/- Walk of FnExecuteTwice. -/
import Derived.Test.YtgjllminidlolaaGreatDoorVAZ
import Derived.Test.YtgjllminidlolaaGreatDoorVBB
set_option linter.unusedVariables false
namespace Go.Proofs.YtgjllminidlolaaGreatDoor
open Go.RowKit

set_option maxRecDepth 20000 in
set_option maxHeartbeats 6400000 in
theorem lawFnExecuteTwice_walk (A0 : Option Addr) (len0 cap0 : Nat) (xs0 : List Int) (w : World) (hm : Env w) (h0 : SlE 1 encU w A0 len0 xs0) (hb0 : Bytes xs0) (hc0 : len0 ≤ cap0) :
    Calls Tryz.prog 4 #[.slice A0 len0 cap0] w (Only (.bool true) w) := by
  have H0 := Lib.hid h0
  have HB0 := Lib.hid hb0
  have HM := Lib.hid hm
  clear h0 hb0 hm
  by_cases hbig : (len0 : Int) ≤ 1048576
  rotate_left
  · go_enter Tryz.func4, Tryz.ntmps4
    go_wp2_with fail
    go_ret
    exact ⟨rfl, Below.refl _ _⟩
  have HDR := Lib.hid (drawExecute_any A0 len0 cap0 xs0 w H0.out HB0.out (by omega) hc0)
  clear H0 HB0
  go_enter Tryz.func4, Tryz.ntmps4
  go_wp2_with fail
  refine HDR.out.mono ?_
  rintro e w1 ⟨t, rfl, ht, hb⟩
  have B1 := Lib.hid hb
  obtain ⟨ls, last, hcut, hpart, h10, hls⟩ := cut_parts t.data.toList
  have hlen : (textOf ls).length ≤ t.size := by
    have h1 : t.size = t.data.toList.length := by simp
    rw [h1, hpart, List.length_append]
    omega
  have HLS := Lib.hid hls
  have HCUT := Lib.hid hcut
  have HLN := Lib.hid hlen
  have HCM := Lib.hid (fun W => complete_any t ls last W (by omega) hpart h10)
  have HI1 := Lib.hid (fun W hE => implExec t W hE)
  have HS1 := Lib.hid (fun W => specExec t W)
  have HT := Lib.hid ht
  obtain ⟨n, hn⟩ : ∃ n, t.size = n := ⟨_, rfl⟩
  have HN := Lib.hid hn
  clear hb hcut hpart h10 hls hlen HDR ht
  have hsm : (textOf ls).length ≤ 500 → (scriptOut ls).length ≤ 1000000 := fun h => script_len (by have := lines_few (ls := ls); omega)
  obtain ⟨K, hK⟩ : ∃ K, (textOf ls).length = K := ⟨_, rfl⟩
  have hKs : (bs (textOf ls)).size = K := by rw [bs_size]; exact hK
  by_cases hbig2 : (488 : Int) < (K : Int)
  · clear hsm hK
    generalize bs (execL t) = T0 at *
    generalize bs (textOf ls) = S at *
    go_wp2_with fail
    refine (HI1.out _ (HM.out.later B1.out)).mono ?_
    rintro e w2 ⟨rfl, hb⟩
    have B2 := Lib.hid (below_trans B1.out hb)
    clear hb
    go_wp2_with fail
    refine (HS1.out _).mono ?_
    rintro e w3 ⟨rfl, hb⟩
    have B3 := Lib.hid (below_trans B2.out hb)
    clear hb
    go_wp2_with fail
    refine (HCM.out _).mono ?_
    rintro e w4 ⟨rfl, hb⟩
    have B4 := Lib.hid (below_trans B3.out hb)
    clear hb
    go_wp2_with fail
    go_ret
    exact ⟨rfl, B4.out⟩
  have hK5 : K ≤ 500 := by omega
  have HA := Lib.hid (fun W hE => implExec (bs (textOf ls)) W hE)
  rw [exec_lines HLS.out (by omega), script_two] at HA
  have HLL : Hid (∀ W, Calls Tryz.prog 14 #[.string (bs (headL ls ++ tailL ls))] W (Only (.string (bs (tailL ls))) W)) := Lib.hid (fun W => lastLine_any (bs (headL ls ++ tailL ls)) (scrT ls ls.length) _ W (by rw [bs_size, ← script_two]; have := hsm (by omega); omega) (by rw [bs_data]; rfl) (endL_no _ _ _))
  have hml : (headL ls ++ tailL ls).length ≤ 1000000 := by rw [← script_two]; exact hsm (by omega)
  rw [List.length_append] at hml
  obtain ⟨nh, hnh⟩ : ∃ nh, (headL ls).length = nh := ⟨_, rfl⟩
  obtain ⟨nl, hnl⟩ : ∃ nl, (tailL ls).length = nl := ⟨_, rfl⟩
  obtain ⟨na, hna⟩ : ∃ na, nh + nl = na := ⟨_, rfl⟩
  rw [hnh, hnl] at hml
  have sA : (bs (headL ls ++ tailL ls)).size = na := by rw [bs_size, List.length_append]; omega
  have sL : (bs (tailL ls)).size = nl := by rw [bs_size]; exact hnl
  have wA : IntKind.i64.wrap ((na : Int) - (nl : Int)) = (nh : Int) := by rw [IntWalk.i64_in _ (by omega)]; omega
  have xA : (bs (headL ls ++ tailL ls)).extract 0 nh = bs (headL ls) := by rw [← hnh]; exact extract_left _ _
  have h0 : (0 : Int) ≤ (nh : Int) := by omega
  have h1 : (nh : Int) ≤ (na : Int) := by omega
  have HE := Lib.hid (fun W hE => implExec (bs (textOf (ls ++ [seatsL]))) W hE)
  have HE2 := Lib.hid (fun W hE => implExec (bs (textOf (ls ++ [seatsL, seatsL]))) W hE)
  rw [exec_lines (lines_app HLS.out (by decide)) (by rw [once_text, List.length_append]; simp; omega)] at HE
  rw [exec_lines (lines_app HLS.out (by decide)) (by rw [twice_text, List.length_append]; simp; omega)] at HE2
  have hmb : (headL ls ++ seatsO ls ++ tailL ls).length ≤ 1000000 := by
    rw [← script_once]
    exact script_len (by have := lines_few (ls := ls); rw [List.length_append, List.length_singleton]; omega)
  rw [script_once] at HE
  rw [script_twice] at HE2
  obtain ⟨no, hno⟩ : ∃ no, (seatsO ls).length = no := ⟨_, rfl⟩
  obtain ⟨nb, hnb⟩ : ∃ nb, nh + no + nl = nb := ⟨_, rfl⟩
  obtain ⟨nm, hnm⟩ : ∃ nm, nh + no = nm := ⟨_, rfl⟩
  rw [List.length_append, List.length_append, hnh, hno, hnl] at hmb
  have sB : (bs (headL ls ++ seatsO ls ++ tailL ls)).size = nb := by rw [bs_size, List.length_append, List.length_append]; omega
  have wB : IntKind.i64.wrap ((nb : Int) - (nl : Int)) = (nm : Int) := by rw [IntWalk.i64_in _ (by omega)]; omega
  have xB : (bs (headL ls ++ seatsO ls ++ tailL ls)).extract nh nm = bs (seatsO ls) := by
    rw [← hnm, ← hno, ← hnh, ← List.length_append]
    exact extract_mid _ _ _
  have h2 : (nh : Int) ≤ (nm : Int) := by omega
  have h3 : (nm : Int) ≤ (nb : Int) := by omega
  have h4 : (0 : Int) ≤ (nm : Int) := by omega
  have ad1 : ∀ W, (Op.stringOp .add (bs (textOf ls)) ⟨#[115, 101, 97, 116, 115, 10]⟩).run Tryz.prog W = .ok (.string (bs (textOf (ls ++ [seatsL])))) W := fun W => by
    rw [once_text]
    exact add_long (textOf ls) [115, 101, 97, 116, 115, 10] (by simp; omega) W
  have ad2 : ∀ W, (Op.stringOp .add (bs (textOf ls)) ⟨#[115, 101, 97, 116, 115, 10, 115, 101, 97, 116, 115, 10]⟩).run Tryz.prog W = .ok (.string (bs (textOf (ls ++ [seatsL, seatsL])))) W := fun W => by
    rw [twice_text]
    exact add_long (textOf ls) [115, 101, 97, 116, 115, 10, 115, 101, 97, 116, 115, 10] (by simp; omega) W
  have ad3 : ∀ W, (Op.stringOp .add ((bs (headL ls ++ tailL ls)).extract 0 nh) ((bs (headL ls ++ seatsO ls ++ tailL ls)).extract nh nm)).run Tryz.prog W = .ok (.string (bs (headL ls ++ seatsO ls))) W := fun W => by
    rw [xA, xB]
    exact add_long _ _ (by omega) W
  have ad4 : ∀ W, (Op.stringOp .add (bs (headL ls ++ seatsO ls)) ((bs (headL ls ++ seatsO ls ++ tailL ls)).extract nh nm)).run Tryz.prog W = .ok (.string (bs (headL ls ++ seatsO ls ++ seatsO ls))) W := fun W => by
    rw [xB]
    exact add_long _ _ (by simp; omega) W
  have ad5 : ∀ W, (Op.stringOp .add (bs (headL ls ++ seatsO ls ++ seatsO ls)) (bs (tailL ls))).run Tryz.prog W = .ok (.string (bs (headL ls ++ seatsO ls ++ seatsO ls ++ tailL ls))) W := add_long _ _ (by simp; omega)
  clear xA xB hK hnh hnl hna hno hnb hnm hml hmb hsm HLS HCUT HLN
  generalize bs (execL t) = T0 at *
  generalize bs (headL ls ++ seatsO ls ++ seatsO ls ++ tailL ls) = FN at *
  generalize bs (headL ls ++ seatsO ls ++ seatsO ls) = X2 at *
  generalize bs (headL ls ++ seatsO ls ++ tailL ls) = B at *
  generalize bs (headL ls ++ seatsO ls) = X1 at *
  generalize bs (headL ls ++ tailL ls) = A at *
  generalize bs (tailL ls) = L at *
  generalize bs (textOf (ls ++ [seatsL, seatsL])) = S2 at *
  generalize bs (textOf (ls ++ [seatsL])) = S1 at *
  generalize bs (textOf ls) = S at *
  have deq : (FN == FN) = true := (MapKept.bytes_beq FN FN).2 rfl
  go_wp2_with fail
  refine (HI1.out _ (HM.out.later B1.out)).mono ?_
  rintro e w2 ⟨rfl, hb⟩
  have B2 := Lib.hid (below_trans B1.out hb)
  clear hb
  go_wp2_with fail
  refine (HS1.out _).mono ?_
  rintro e w3 ⟨rfl, hb⟩
  have B3 := Lib.hid (below_trans B2.out hb)
  clear hb
  go_wp2_with fail
  refine (HCM.out _).mono ?_
  rintro e w4 ⟨rfl, hb⟩
  have B4 := Lib.hid (below_trans B3.out hb)
  clear hb
  go_wp2_with fail
  refine (HA.out _ (HM.out.later B4.out)).mono ?_
  rintro e w5 ⟨rfl, hb⟩
  have B5 := Lib.hid (below_trans B4.out hb)
  clear hb
  go_wp2_with fail
  refine (HLL.out _).mono ?_
  rintro e w6 ⟨rfl, hb⟩
  have B6 := Lib.hid (below_trans B5.out hb)
  clear hb
  go_wp2_with fail
  refine (HE.out _ (HM.out.later B6.out)).mono ?_
  rintro e w7 ⟨rfl, hb⟩
  have B7 := Lib.hid (below_trans B6.out hb)
  clear hb
  go_wp2_with fail
  have BD := Lib.hid (below_trans B7.out (below_drew (Below.refl _ w7)))
  have HED := Lib.hid (HE2.out w7.drew (HM.out.later BD.out))
  go_region_with (first
    | (go_at_call 11; (with_reducible_and_instances refine HED.out.mono ?_); rintro e w8 ⟨rfl, hb⟩; have B8 := Lib.hid (below_trans BD.out hb); clear hb)
    | fail)
  all_goals
    go_wp2_with fail
    go_ret
    exact ⟨rfl, B8.out⟩
end Go.Proofs.YtgjllminidlolaaGreatDoor
