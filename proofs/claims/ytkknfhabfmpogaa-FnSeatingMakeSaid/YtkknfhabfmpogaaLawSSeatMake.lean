/- Walk of FnSeatingMake. -/
import Derived.Test.YtkknfhabfmpogaaSDrawA
import Derived.Test.YtkknfhabfmpogaaSWalkI
import Derived.Test.YtkknfhabfmpogaaSWalkL
import Derived.Test.YtkknfhabfmpogaaSameI
import Derived.Test.YtkknfhabfmpogaaSMost
import Derived.Deep.QuietTactic
import Derived.BigQuiet
set_option linter.unusedVariables false
namespace Go.Proofs.Ytkknfhabfmpogaa
open Go.RowKit

set_option maxRecDepth 20000 in
set_option maxHeartbeats 6400000 in
theorem lawFnSeatingMake_walk (A0 : Option Addr) (len0 cap0 : Nat) (xs0 : List Int) (w : World) (h0 : SlE 1 encU w A0 len0 xs0) (hb0 : Bytes xs0) (hc0 : len0 ≤ cap0) :
    Calls Try.prog 7 #[.slice A0 len0 cap0] w (Only (.bool true) w) := by
  have H0 := Lib.hid h0
  have HB0 := Lib.hid hb0
  clear h0 hb0
  by_cases hbig : (len0 : Int) ≤ 1048576
  rotate_left
  · go_enter Try.func7, Try.ntmps7
    go_wp2_with fail
    go_ret
    exact ⟨rfl, Below.refl _ _⟩
  go_enter Try.func7, Try.ntmps7
  go_wp2_with fail
  refine (drawSeatingMake_any A0 len0 cap0 xs0 w H0.out HB0.out (by omega) hc0).mono ?_
  rintro e w1 ⟨n, v, xs, rfl, n0, n1, hl, hown, hb⟩
  clear H0 HB0
  obtain ⟨n, rfl⟩ : ∃ i : Nat, n = i := ⟨n.toNat, by omega⟩
  obtain ⟨A, c, rfl, -, hlc⟩ := hown.slc encB_len rfl
  generalize hlen : xs.length = len at *
  have HL := Lib.hid hlen
  have S1 := Lib.hid (sl_of_own_at encB_len hown hlen)
  have B1 := Lib.hid hb
  clear hown hb hlen
  by_cases hok : BookOk n xs
  rotate_left
  · have HN := Lib.hid hok
    clear hok
    go_wp2_with fail
    refine (implSeatingMake_no A n len c xs w1 S1.out (by omega) HN.out).mono ?_
    rintro e w2 ⟨v2, rfl, hown, hb⟩
    obtain ⟨A2, c2, rfl, -, hc2⟩ := hown.slc encI_len (n := 0) rfl
    have S2 := Lib.hid (S1.out.below hb)
    have B2 := Lib.hid (below_trans B1.out hb)
    have E2 := Lib.hid (sl_of_own_at encI_len hown rfl)
    clear hb S1 B1 hown
    go_wp2_with fail
    refine (specSeatingMake_no A n len c xs w2 S2.out (by omega) HN.out).mono ?_
    rintro e w3 ⟨v3, rfl, hown, hb⟩
    obtain ⟨A3, c3, rfl, -, hc3⟩ := hown.slc encI_len (n := 0) rfl
    have E3 := Lib.hid (E2.out.below hb)
    have B3 := Lib.hid (below_trans B2.out hb)
    have F3 := Lib.hid (sl_of_own_at encI_len hown rfl)
    clear hb S2 E2 B2 hown
    go_wp2_with fail
    refine (sameInts_yes A2 A3 0 c2 c3 [] w3 E3.out F3.out (by omega)).mono ?_
    rintro e w4 ⟨rfl, hb⟩
    have E4 := Lib.hid (E3.out.below hb)
    have F4 := Lib.hid (F3.out.below hb)
    have B4 := Lib.hid (below_trans B3.out hb)
    clear hb E3 F3 B3
    go_wp2_with fail
    refine (sameInts_yes A2 A3 0 c2 c3 [] w4 E4.out F4.out (by omega)).mono ?_
    rintro e w5 ⟨rfl, hb⟩
    have E5 := Lib.hid (E4.out.below hb)
    have F5 := Lib.hid (F4.out.below hb)
    have B5 := Lib.hid (below_trans B4.out hb)
    clear hb E4 F4 B4
    go_wp2_with fail
    go_ret
    exact ⟨rfl, B5.out⟩
  have HOK := Lib.hid hok
  have hn7 := hok.2.1
  have HPL := Lib.hid (show (plan xs n).length = len by rw [plan_len hok, HL.out])
  have HSO := Lib.hid (And.intro hok (plan_all hok).1)
  have HUM := Lib.hid (fun k => used_most hok k)
  have HUB := Lib.hid (fun k j hj => used_bd hok k j hj)
  have HPA := Lib.hid (plan_all hok).1.2.1
  have HMB := Lib.hid (fun k j => mostTo_bd xs k j)
  have HTL := Lib.hid (fun k => takens_len xs k n)
  clear hok
  generalize hpl : plan xs n = out at *
  have HPP := Lib.hid (fun (W : World) (h : SlE 3 encB W A len xs) => implSeatingMake_yes A n len c xs W h HOK.out)
  have HPQ := Lib.hid (fun (W : World) (h : SlE 3 encB W A len xs) => specSeatingMake_yes A n len c xs W h HOK.out)
  rw [hpl] at HPP HPQ
  clear hpl
  go_wp2_with fail
  refine (HPP.out w1 S1.out).mono ?_
  rintro e w2 ⟨v2, rfl, hown, hb⟩
  obtain ⟨A2, c2, rfl, -, hc2⟩ := hown.slc encI_len (n := len) HPL.out
  have S2 := Lib.hid (S1.out.below hb)
  have B2 := Lib.hid (below_trans B1.out hb)
  have X2 := Lib.hid (sl_of_own_at encI_len hown HPL.out)
  clear hb S1 B1 hown
  go_wp2_with fail
  refine (HPQ.out w2 S2.out).mono ?_
  rintro e w3 ⟨v3, rfl, hown, hb⟩
  obtain ⟨A3, c3, rfl, -, hc3⟩ := hown.slc encI_len (n := len) HPL.out
  have S3 := Lib.hid (S2.out.below hb)
  have X3 := Lib.hid (X2.out.below hb)
  have B3 := Lib.hid (below_trans B2.out hb)
  have Y3 := Lib.hid (sl_of_own_at encI_len hown HPL.out)
  clear hb S2 X2 B2 hown
  go_wp2_with fail
  refine (sameInts_yes A2 A3 len c2 c3 out w3 X3.out Y3.out (by omega)).mono ?_
  rintro e w4 ⟨rfl, hb⟩
  have S4 := Lib.hid (S3.out.below hb)
  have X4 := Lib.hid (X3.out.below hb)
  have B4 := Lib.hid (below_trans B3.out hb)
  clear hb S3 X3 Y3 B3
  obtain ⟨W0, rfl⟩ : ∃ W0, W0 = w4 := ⟨_, rfl⟩
  go_wp2_with fail
  go_loopw [9] (fun i wr => ∃ kd : Nat, kd ≤ 2 ∧ i = .int .i64 kd ∧ Below W0.heap.size W0 wr) (fun i _ => 2 - (intOf i).toNat)
  case atStart => exact ⟨0, by omega, rfl, Below.refl _ _⟩
  case round =>
    obtain ⟨kd, hkd, rfl, hbr⟩ := hrel
    have HR := Lib.hid hbr
    clear hbr
    have S5 := Lib.hid (S4.out.below HR.out)
    have X5 := Lib.hid (X4.out.below HR.out)
    have B5 := Lib.hid (below_trans B4.out HR.out)
    by_cases h2 : kd = 2
    · subst h2
      obtain ⟨w5, rfl⟩ : ∃ w, w = wr := ⟨_, rfl⟩
      go_wp2_with fail
      refine (implSeatingValid_any A A2 n len c len c2 xs out w5 S5.out X5.out (by omega)).mono ?_
      intro e w6 hp
      obtain ⟨rfl, hb⟩ := hp.yes HSO.out
      have B6 := Lib.hid (below_trans B5.out hb)
      clear hp hb
      go_wp2_with fail
      go_ret
      exact ⟨rfl, B6.out⟩
    obtain ⟨kb, hkb⟩ : ∃ kb : Bool, kb = ((kd : Int) == 0) := ⟨_, rfl⟩
    have HKB := Lib.hid hkb.symm
    have hk2 : (kd : Int) < 2 := by omega
    have hk3 : kd < 2 := by omega
    clear hkb h2
    go_wp2_with fail
    rw [HKB.out]
    refine (implSeatsTaken_yes A n len c xs kb wr S5.out (by omega) HOK.out).mono ?_
    rintro e w6 ⟨v6, rfl, hown, hb6⟩
    obtain ⟨A6, c6, rfl, -, -⟩ := hown.slc encI_len (n := n) (HTL.out kb)
    have Z6 := Lib.hid (sl_of_own_at encI_len hown (HTL.out kb))
    have S6 := Lib.hid (S5.out.below hb6)
    have X6 := Lib.hid (X5.out.below hb6)
    have R6 := Lib.hid (below_trans HR.out hb6)
    clear hown hb6 S5 X5 B5 HR
    go_wp2_with fail
    go_loop [12, 13] (fun m i => ∃ j : Nat, j ≤ n ∧ i = .int .i64 j ∧ m = .int .i64 (mostTo xs kb j)) (fun _ i => n - (intOf i).toNat)
    case atStart => exact ⟨0, by omega, rfl, rfl⟩
    case round =>
      obtain ⟨j, hj, rfl, rfl⟩ := hrel
      by_cases hjn : j < n
      · obtain ⟨b, off, q, rfl, hbl, hq, hd, g0⟩ := at1 Z6.out (Below.refl _ _) hjn
        rw [takens_at hjn] at hq
        injection hq with hq
        subst hq
        have HX := Lib.hid (show mostTo xs kb (j + 1) = max (mostTo xs kb j) (taken xs j kb) from rfl)
        have hb1 := taken_bd xs j kb
        have hb2 := HMB.out kb j
        have hxl := HL.out
        clear hd
        generalize taken xs j kb = tk at *
        generalize mostTo xs kb j = mo at *
        go_wp2_with fail
        go_round
        case rel => exact ⟨j + 1, by omega, by go_num, by rw [HX.out, ← max_ite]⟩
        case measure => simp [intOf]; omega
      have e : j = n := by omega
      subst e
      go_wp2_with fail
      go_loop [14, 15] (fun m i => ∃ t : Nat, t ≤ len ∧ i = .int .i64 t ∧ m = .int .i64 (usedTo xs out kb t)) (fun _ i => len - (intOf i).toNat)
      case atStart => exact ⟨0, by omega, rfl, rfl⟩
      case round =>
        obtain ⟨t, ht, rfl, rfl⟩ := hrel
        by_cases htl : t < len
        · obtain ⟨b, off, x, y, z, rfl, hbl, hx, hd, g0, g1, g2⟩ := atB S6.out (Below.refl _ _) htl
          obtain ⟨b2, off2, o, rfl, hbl2, ho, hd2, l0⟩ := at1 X6.out (Below.refl _ _) htl
          have HX := Lib.hid (usedTo_next (k := kb) hx ho)
          have hb2 := HUB.out kb t (by rw [HL.out]; omega)
          have hrg := HPA.out t _ o hx ho
          have hcb := capOf_bd z
          dsimp only at hrg
          obtain ⟨o0, o1⟩ := hrg
          clear hx hd ho hd2
          generalize usedTo xs out kb t = us at *
          generalize capOf z = cz at *
          by_cases hz : z = kb
          · have d0 : (z == ((kd : Int) == 0)) = true := by rw [HKB.out]; simpa using hz
            have HXX := Lib.hid (show usedTo xs out kb (t + 1) = max us (o + 1) by rw [HX.out, if_pos hz])
            clear hz
            go_wp2_with fail
            go_round
            case rel => exact ⟨t + 1, by omega, by go_num, by rw [HXX.out, ← max_ite]⟩
            case measure => simp [intOf]; omega
          · have d0 : (z == ((kd : Int) == 0)) = false := by rw [HKB.out]; simpa using hz
            have HXX := Lib.hid (show usedTo xs out kb (t + 1) = us by rw [HX.out, if_neg hz])
            clear hz
            go_wp2_with fail
            go_round
            case rel => exact ⟨t + 1, by omega, by go_num, by rw [HXX.out]⟩
            case measure => simp [intOf]; omega
        have e : t = len := by omega
        subst e
        have hum := HUM.out kb
        rw [HL.out] at hum
        rw [hum]
        clear hum
        have d1 : ((mostTo xs kb j) == (mostTo xs kb j)) = true := by simp
        have d2 : ((mostTo xs kb j) != (mostTo xs kb j)) = false := by simp
        generalize mostTo xs kb j = mo at *
        go_wp2_with fail
        go_roundw
        case rel => exact ⟨kd + 1, by omega, by go_num, R6.out⟩
        case measure => simp [intOf]; omega
end Go.Proofs.Ytkknfhabfmpogaa
