/- Walk of FnBillLoads. -/
import Derived.Test.YtdfgogcefnamcaaDrawC
import Derived.Test.YtdfgogcefnamcaaBPlain
import Derived.Test.YtdfgogcefnamcaaWalkF
import Derived.Test.YtdfgogcefnamcaaSameI
import Derived.Test.YtdfgogcefnamcaaSumOf
import Derived.Deep.QuietTactic
import Derived.BigQuiet
set_option linter.unusedVariables false
namespace Go.Proofs.Ytdfgogcefnamcaa
open Go.RowKit

set_option maxRecDepth 20000 in
set_option maxHeartbeats 6400000 in
theorem lawFnBillLoads_walk (A0 : Option Addr) (len0 cap0 : Nat) (xs0 : List Int) (w : World) (h0 : SlE 1 encU w A0 len0 xs0) (hb0 : Bytes xs0) (hc0 : len0 ≤ cap0) :
    Calls Try.prog 5 #[.slice A0 len0 cap0] w (Only (.bool true) w) := by
  have H0 := Lib.hid h0
  have HB0 := Lib.hid hb0
  clear h0 hb0
  by_cases hbig : (len0 : Int) ≤ 1048576
  rotate_left
  · go_enter Try.func5, Try.ntmps5
    go_wp2_with fail
    go_ret
    exact ⟨rfl, Below.refl _ _⟩
  go_enter Try.func5, Try.ntmps5
  go_wp2_with fail
  refine (drawBillLoads_any A0 len0 cap0 xs0 w H0.out HB0.out (by omega) hc0).mono ?_
  rintro e w1 ⟨n, v, xs, rfl, n0, n1, hl, hown, hb⟩
  clear H0 HB0
  obtain ⟨n, rfl⟩ : ∃ i : Nat, n = i := ⟨n.toNat, by omega⟩
  obtain ⟨A, c, rfl, -, hlc⟩ := hown.slc enc3_len rfl
  generalize hlen : xs.length = len at *
  have HL := Lib.hid hlen
  have S1 := Lib.hid (sl_of_own_at enc3_len hown hlen)
  have B1 := Lib.hid hb
  clear hown hb hlen
  by_cases hok : BillOk n xs
  rotate_left
  · have HN := Lib.hid hok
    clear hok
    go_wp2_with fail
    refine (implBillLoads_no A n len c xs w1 S1.out (by omega) HN.out).mono ?_
    rintro e w2 ⟨v2, rfl, hown, hb⟩
    obtain ⟨A2, c2, rfl, -, hc2⟩ := hown.slc encI_len (n := 0) rfl
    have S2 := Lib.hid (S1.out.below hb)
    have B2 := Lib.hid (below_trans B1.out hb)
    have E2 := Lib.hid (sl_of_own_at encI_len hown rfl)
    clear hb S1 B1 hown
    go_wp2_with fail
    refine (specBillLoads_no A n len c xs w2 S2.out (by omega) HN.out).mono ?_
    rintro e w3 ⟨v3, rfl, hown, hb⟩
    obtain ⟨A3, c3, rfl, -, hc3⟩ := hown.slc encI_len (n := 0) rfl
    have E3 := Lib.hid (E2.out.below hb)
    have B3 := Lib.hid (below_trans B2.out hb)
    have F3 := Lib.hid (sl_of_own_at encI_len hown rfl)
    clear hb S2 E2 B2 hown
    go_wp2_with fail
    refine (sameInts_yes A2 A3 0 c2 c3 [] w3 E3.out F3.out (by omega)).mono ?_
    rintro e w4 ⟨rfl, hb⟩
    have E4 := Lib.hid (E3.out.below hb)
    have F4 := Lib.hid (F3.out.below hb)
    have B4 := Lib.hid (below_trans B3.out hb)
    clear hb E3 F3 B3
    go_wp2_with fail
    refine (sameInts_yes A2 A3 0 c2 c3 [] w4 E4.out F4.out (by omega)).mono ?_
    rintro e w5 ⟨rfl, hb⟩
    have E5 := Lib.hid (E4.out.below hb)
    have F5 := Lib.hid (F4.out.below hb)
    have B5 := Lib.hid (below_trans B4.out hb)
    clear hb E4 F4 B4
    go_wp2_with fail
    go_ret
    exact ⟨rfl, B5.out⟩
  have HOK := Lib.hid hok
  have HOKP := Lib.hid hok.2.2.2.1
  have HLL := Lib.hid (loads_len xs n)
  have HAT := Lib.hid (fun (j : Nat) (h : j < n) => loads_at (xs := xs) h)
  have HCH := Lib.hid (fun (j : Nat) => load_chg hok.2.2.2.1 (j : Int))
  have HNE := Lib.hid (load_neg hok.2.2.2.1 (leg := ((0 : Nat) : Int) - 1) (by omega))
  have HLM := Lib.hid (fun (j : Nat) (h : j < n) => hok.2.2.2.2 j (by omega))
  have HLN := Lib.hid (fun (leg : Int) => load_bd xs leg (okP_w hok.2.2.2.1))
  have HSUM := Lib.hid (loads_sum (n := n) hok.2.2.2.1)
  have HEB : Hid (∀ z ∈ loads xs n, 0 ≤ z ∧ z ≤ 10000) := fun z hz => by
    obtain ⟨t, ht⟩ := List.getElem?_of_mem hz
    have htl := (List.getElem?_eq_some_iff.1 ht).1
    rw [loads_len] at htl
    rw [loads_at htl] at ht
    injection ht with ht
    have h1 := load_bd xs (t : Int) (okP_w HOK.out.2.2.2.1)
    have h2 := HOK.out.2.2.2.2 t (by omega)
    omega
  clear hok
  go_wp2_with fail
  refine (implBillLoads_yes A n len c xs w1 S1.out (by omega) HOK.out).mono ?_
  rintro e w2 ⟨v2, rfl, hown, hb⟩
  obtain ⟨A2, c2, rfl, -, hc2⟩ := hown.slc encI_len (n := n) HLL.out
  have S2 := Lib.hid (S1.out.below hb)
  have B2 := Lib.hid (below_trans B1.out hb)
  have E2 := Lib.hid (sl_of_own_at encI_len hown HLL.out)
  clear hb S1 B1 hown
  go_wp2_with fail
  refine (specBillLoads_yes A n len c xs w2 S2.out (by omega) HOK.out).mono ?_
  rintro e w3 ⟨v3, rfl, hown, hb⟩
  obtain ⟨A3, c3, rfl, -, hc3⟩ := hown.slc encI_len (n := n) HLL.out
  have S3 := Lib.hid (S2.out.below hb)
  have E3 := Lib.hid (E2.out.below hb)
  have B3 := Lib.hid (below_trans B2.out hb)
  have F3 := Lib.hid (sl_of_own_at encI_len hown HLL.out)
  clear hb S2 E2 B2 hown
  go_wp2_with fail
  refine (sameInts_yes A2 A3 n c2 c3 _ w3 E3.out F3.out (by omega)).mono ?_
  rintro e w4 ⟨rfl, hb⟩
  have S4 := Lib.hid (S3.out.below hb)
  have E4 := Lib.hid (E3.out.below hb)
  have B4 := Lib.hid (below_trans B3.out hb)
  clear hb S3 E3 F3 B3
  have HIP := Lib.hid (fun (W : World) (h : SlE 3 enc3 W A len xs) => implBillPound_yes A n len c xs W h (by omega) HOK.out)
  have hne : ((n : Int) == (n : Int)) = true := by simp
  go_wp2_with fail
  obtain ⟨W0, rfl⟩ : ∃ W0, W0 = w4 := ⟨_, rfl⟩
  go_loopw [10, 9, 11] (fun i s _ wr => ∃ j : Nat, j ≤ n ∧ i = .int .i64 j ∧ s = .int .i64 (load xs ((j : Int) - 1)) ∧ Below W0.heap.size W0 wr) (fun i _ _ _ => n - (intOf i).toNat)
  case atStart => exact ⟨0, by omega, rfl, by rw [HNE.out], Below.refl _ _⟩
  case round =>
    obtain ⟨j, hj, rfl, rfl, hbr⟩ := hrel
    have HR := Lib.hid hbr
    obtain ⟨W1, rfl⟩ : ∃ W1, W1 = wr := ⟨_, rfl⟩
    clear hbr
    by_cases hlt : j < n
    · have HC := Lib.hid (HCH.out j)
      have hl0 := HLN.out ((j : Int) - 1)
      have hl1 := HLN.out (j : Int)
      have hl2 := HLM.out j hlt
      rw [HL.out] at hl0 hl1
      obtain ⟨b0, b1⟩ := hl0
      obtain ⟨b2, b3⟩ := hl1
      generalize load xs ((j : Int) - 1) = L0 at *
      go_wp2_with fail
      go_loopw [11, 9] (fun i s wr => ∃ k : Nat, k ≤ len ∧ i = .int .i64 k ∧ s = .int .i64 (L0 + chg (xs.take k) j) ∧ Below W0.heap.size W0 wr) (fun i _ _ => len - (intOf i).toNat)
      case atStart => exact ⟨0, by omega, rfl, by simp [chg], HR.out⟩
      case round =>
        obtain ⟨k, hk, rfl, rfl, hbr⟩ := hrel
        have HR2 := Lib.hid hbr
        clear hbr
        have hcb := chg_bd (fun p hp => HOKP.out p (List.mem_of_mem_take (i := k) hp)) (j : Int)
        have hkl : (xs.take k).length ≤ k := List.length_take_le _ _
        obtain ⟨g3, g4⟩ := hcb
        by_cases hlk : k < len
        · obtain ⟨b, off, x, y, z, rfl, hbl, hx, hd, g0, g1, g2⟩ := at3 S4.out HR2.out hlk
          have hokp := HOKP.out _ (mem_at hx)
          unfold OkP at hokp
          dsimp only at hokp
          have HN := Lib.hid (chg_next (j : Int) hx)
          clear hx hd
          generalize chg (xs.take k) (j : Int) = G at *
          by_cases e1 : x = (j : Int)
          · have e2 : ¬ y = (j : Int) := by omega
            have f1 : (x == (j : Int)) = true := by simpa using e1
            have f2 : (y == (j : Int)) = false := by simpa using e2
            have E1 := Lib.hid e1
            have E2 := Lib.hid e2
            clear e1 e2
            go_wp2_with fail
            go_roundw
            case rel => exact ⟨k + 1, by omega, by go_num, by rw [HN.out]; dsimp only; rw [if_pos E1.out, if_neg E2.out]; exact congrArg (Value.int .i64) (by omega), HR2.out⟩
            case measure => simp [intOf]; omega
          · have f1 : (x == (j : Int)) = false := by simpa using e1
            have E1 := Lib.hid e1
            clear e1
            by_cases e2 : y = (j : Int)
            · have f2 : (y == (j : Int)) = true := by simpa using e2
              have E2 := Lib.hid e2
              clear e2
              go_wp2_with fail
              go_roundw
              case rel => exact ⟨k + 1, by omega, by go_num, by rw [HN.out]; dsimp only; rw [if_neg E1.out, if_pos E2.out]; exact congrArg (Value.int .i64) (by omega), HR2.out⟩
              case measure => simp [intOf]; omega
            · have f2 : (y == (j : Int)) = false := by simpa using e2
              have E2 := Lib.hid e2
              clear e2
              go_wp2_with fail
              go_roundw
              case rel => exact ⟨k + 1, by omega, by go_num, by rw [HN.out]; dsimp only; rw [if_neg E1.out, if_neg E2.out]; exact congrArg (Value.int .i64) (by omega), HR2.out⟩
              case measure => simp [intOf]; omega
        · have e : k = len := by omega
          subst e
          have HTK := Lib.hid (show xs.take k = xs by rw [List.take_of_length_le (by rw [HL.out]; omega)])
          have hC := HC.out
          rw [HTK.out] at g3 g4 ⊢
          rw [← hC]
          clear HTK
          obtain ⟨be, oe, q, rfl, hbe, hq, hdq, q0⟩ := at1 E4.out HR2.out hlt
          have hqq := HAT.out j hlt
          rw [hq] at hqq
          injection hqq with hqq
          have HC2 := Lib.hid hC
          clear hq hdq hC
          subst hqq
          generalize hQ : load xs (j : Int) = Q at *
          have HQQ := Lib.hid hQ
          clear hQ
          have c1 : (Q == Q) = true := by simp
          have HQ := Lib.hid (show (((j + 1 : Nat) : Int) - 1) = (j : Int) by omega)
          go_wp2_with fail
          go_roundw
          case rel => exact ⟨j + 1, by omega, by go_num, by rw [HQ.out, HQQ.out], HR2.out⟩
          case measure => simp [intOf]; omega
    · have e : j = n := by omega
      subst e
      have HE6 := Lib.hid (E4.out.below HR.out)
      go_wp2_with fail
      refine (sumOf_any A2 j c2 (loads xs j) W1 HE6.out (by omega) HEB.out).mono ?_
      rintro e w6 ⟨rfl, rfl⟩
      rw [HSUM.out]
      go_wp2_with fail
      refine (HIP.out W1 (S4.out.below HR.out)).mono ?_
      rintro e w7 ⟨rfl, hb7⟩
      have B7 := Lib.hid (below_trans (below_trans B4.out HR.out) hb7)
      clear hb7
      go_wp2_with fail
      go_ret
      exact ⟨by simp, B7.out⟩
end Go.Proofs.Ytdfgogcefnamcaa
