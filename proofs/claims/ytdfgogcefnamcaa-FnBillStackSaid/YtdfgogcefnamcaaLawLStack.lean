/- Walk of FnBillStack. -/
import Derived.Test.YtdfgogcefnamcaaDrawN
import Derived.Test.YtdfgogcefnamcaaBMoves
import Derived.Test.YtdfgogcefnamcaaStkR
import Derived.Test.YtdfgogcefnamcaaSameI
import Derived.Test.YtdfgogcefnamcaaHasInt
import Derived.Deep.QuietTactic
import Derived.BigQuiet
import Derived.Deep.Cut
set_option linter.unusedVariables false
namespace Go.Proofs.Ytdfgogcefnamcaa
open Go.RowKit

set_option maxRecDepth 20000 in
set_option maxHeartbeats 6400000 in
theorem lawFnBillStack_walk (A0 : Option Addr) (len0 cap0 : Nat) (xs0 : List Int) (w : World) (h0 : SlE 1 encU w A0 len0 xs0) (hb0 : Bytes xs0) (hc0 : len0 ≤ cap0) :
    Calls Try.prog 9 #[.slice A0 len0 cap0] w (Only (.bool true) w) := by
  have H0 := Lib.hid h0
  have HB0 := Lib.hid hb0
  clear h0 hb0
  by_cases hbig : (len0 : Int) ≤ 1048576
  rotate_left
  · go_enter Try.func9, Try.ntmps9
    go_wp2_with fail
    go_ret
    exact ⟨rfl, Below.refl _ _⟩
  go_enter Try.func9, Try.ntmps9
  go_wp2_with fail
  refine (drawBillStack_any A0 len0 cap0 xs0 w H0.out HB0.out (by omega) hc0).mono ?_
  rintro e w1 ⟨n, v, xs, s, rfl, n0, n1, hl, s0, s1, hown, hb⟩
  clear H0 HB0
  obtain ⟨n, rfl⟩ : ∃ i : Nat, n = i := ⟨n.toNat, by omega⟩
  obtain ⟨A, c, rfl, -, hlc⟩ := hown.slc enc3_len rfl
  generalize hlen : xs.length = len at *
  have HL := Lib.hid hlen
  have S1 := Lib.hid (sl_of_own_at enc3_len hown hlen)
  have B1 := Lib.hid hb
  clear hown hb hlen
  by_cases hok : BillOk n xs ∧ 0 ≤ s ∧ s ≤ n
  rotate_left
  · have HN := Lib.hid hok
    clear hok
    go_wp2_with fail
    refine (implBillStack_no A n s len c xs w1 S1.out (by omega) HN.out).mono ?_
    rintro e w2 ⟨v2, rfl, hown, hb⟩
    obtain ⟨A2, c2, rfl, -, hc2⟩ := hown.slc encI_len (n := 0) rfl
    have S2 := Lib.hid (S1.out.below hb)
    have B2 := Lib.hid (below_trans B1.out hb)
    have E2 := Lib.hid (sl_of_own_at encI_len hown rfl)
    clear hb S1 B1 hown
    go_wp2_with fail
    refine (specBillStack_no A n s len c xs w2 S2.out (by omega) HN.out).mono ?_
    rintro e w3 ⟨v3, rfl, hown, hb⟩
    obtain ⟨A3, c3, rfl, -, hc3⟩ := hown.slc encI_len (n := 0) rfl
    have E3 := Lib.hid (E2.out.below hb)
    have B3 := Lib.hid (below_trans B2.out hb)
    have F3 := Lib.hid (sl_of_own_at encI_len hown rfl)
    clear hb S2 E2 B2 hown
    go_wp2_with fail
    refine (sameInts_yes A2 A3 0 c2 c3 [] w3 E3.out F3.out (by omega)).mono ?_
    rintro e w4 ⟨rfl, hb⟩
    have E4 := Lib.hid (E3.out.below hb)
    have F4 := Lib.hid (F3.out.below hb)
    have B4 := Lib.hid (below_trans B3.out hb)
    clear hb E3 F3 B3
    go_wp2_with fail
    refine (sameInts_yes A2 A3 0 c2 c3 [] w4 E4.out F4.out (by omega)).mono ?_
    rintro e w5 ⟨rfl, hb⟩
    have E5 := Lib.hid (E4.out.below hb)
    have F5 := Lib.hid (F4.out.below hb)
    have B5 := Lib.hid (below_trans B4.out hb)
    clear hb E4 F4 B4
    go_wp2_with fail
    go_ret
    exact ⟨rfl, B5.out⟩
  obtain ⟨hB, hs0, hs1⟩ := hok
  obtain ⟨s, rfl⟩ : ∃ i : Nat, s = i := ⟨s.toNat, by omega⟩
  have hsn : s ≤ n := by omega
  have HOK := Lib.hid hB
  have HMEM := Lib.hid (fun (i : Nat) (p : T3) (h : xs[i]? = some p) => stk_mem hB.2.2.2.1 s h)
  have HSRT := Lib.hid (fun (j : Nat) (x y : Int) (h1 : (runI (packs xs) (s + 1)).1[j]? = some x) (h2 : (runI (packs xs) (s + 1)).1[j + 1]? = some y) => stk_sorted hB.2.2.2.1 (s + 1) h1 h2)
  have HEND : Hid (s = n → (runI (packs xs) (s + 1)).1 = []) := fun h => by rw [h]; exact stk_end hB.2.2.2.1
  have hrb := (runI_bd (packs xs) (by rw [packs_len]; exact hB.2.2.1) (s + 1) (by omega)).1
  have HIM := Lib.hid (fun (W : World) (h : SlE 3 enc3 W A len xs) => implBillStack_yes A n s len c xs W h HOK.out hsn)
  have HSP := Lib.hid (fun (W : World) (h : SlE 3 enc3 W A len xs) => specBillStack_yes A n s len c xs W h HOK.out hsn)
  clear hB hs0 hs1
  generalize (runI (packs xs) (s + 1)).1 = st at *
  generalize hsl : st.length = sl at *
  have HSL := Lib.hid hsl
  clear hsl
  go_wp2_with fail
  refine (HIM.out w1 S1.out).mono ?_
  rintro e w2 ⟨v2, rfl, hown, hb⟩
  obtain ⟨A2, c2, rfl, -, hc2⟩ := hown.slc encI_len (n := sl) HSL.out
  have S2 := Lib.hid (S1.out.below hb)
  have B2 := Lib.hid (below_trans B1.out hb)
  have E2 := Lib.hid (sl_of_own_at encI_len hown HSL.out)
  clear hb S1 B1 hown
  go_wp2_with fail
  refine (HSP.out w2 S2.out).mono ?_
  rintro e w3 ⟨v3, rfl, hown, hb⟩
  obtain ⟨A3, c3, rfl, -, hc3⟩ := hown.slc encI_len (n := sl) HSL.out
  have S3 := Lib.hid (S2.out.below hb)
  have E3 := Lib.hid (E2.out.below hb)
  have B3 := Lib.hid (below_trans B2.out hb)
  have F3 := Lib.hid (sl_of_own_at encI_len hown HSL.out)
  clear hb S2 E2 B2 hown
  go_wp2_with fail
  refine (sameInts_yes A2 A3 sl c2 c3 _ w3 E3.out F3.out (by omega)).mono ?_
  rintro e w4 ⟨rfl, hb⟩
  have S4 := Lib.hid (S3.out.below hb)
  have E4 := Lib.hid (E3.out.below hb)
  have B4 := Lib.hid (below_trans B3.out hb)
  clear hb S3 E3 F3 B3
  go_wp2_with fail
  obtain ⟨W0, rfl⟩ : ∃ W0, W0 = w4 := ⟨_, rfl⟩
  go_loopw [10] (fun i wr => ∃ j : Nat, j ≤ len ∧ i = .int .i64 j ∧ Below W0.heap.size W0 wr) (fun i _ => len - (intOf i).toNat)
  case atStart => exact ⟨0, by omega, rfl, Below.refl _ _⟩
  case round =>
    obtain ⟨j, hj, rfl, hbr⟩ := hrel
    have HR := Lib.hid hbr
    obtain ⟨W1, rfl⟩ : ∃ W1, W1 = wr := ⟨_, rfl⟩
    clear hbr
    by_cases hlt : j < len
    · obtain ⟨b, off, x, y, z, rfl, hbl, hx, hd, g0, g1, g2⟩ := at3 S4.out HR.out hlt
      have HM := Lib.hid (HMEM.out j _ hx)
      have HE := Lib.hid (E4.out.below HR.out)
      clear hx hd
      by_cases hin : x ≤ (s : Int) ∧ (s : Int) < y
      · have HQ := Lib.hid (fun d => (hasInt_any A2 sl c2 st (j : Int) (W1.drewN d) (HE.out.drewN d) (by omega)).mono fun e w' hp => (show e = .returned (.bool true) ∧ w' = W1.drewN d from by obtain ⟨a, b⟩ := hp.yes (HM.out.2 hin); exact ⟨a, b.symm⟩))
        obtain ⟨i1, i2⟩ := hin
        go_wp2_with fail
        go_quiet ((go_at_call 42; exact Calls.quiet_of_same (HQ.out _)))
        go_wp2_with fail
        go_roundw
        case rel => exact ⟨j + 1, by omega, by go_num, bl_drewN HR.out _⟩
        case measure => simp [intOf]; omega
      · have HQ := Lib.hid (fun d => (hasInt_any A2 sl c2 st (j : Int) (W1.drewN d) (HE.out.drewN d) (by omega)).mono fun e w' hp => (show e = .returned (.bool false) ∧ w' = W1.drewN d from by obtain ⟨a, b⟩ := hp.no (fun h => hin (HM.out.1 h)); exact ⟨a, b.symm⟩))
        by_cases i1 : x ≤ (s : Int)
        · have i2 : ¬ (s : Int) < y := fun h => hin ⟨i1, h⟩
          clear hin
          go_wp2_with fail
          go_quiet ((go_at_call 42; exact Calls.quiet_of_same (HQ.out _)))
          go_wp2_with fail
          go_roundw
          case rel => exact ⟨j + 1, by omega, by go_num, bl_drewN HR.out _⟩
          case measure => simp [intOf]; omega
        · have i3 : decide (x ≤ (s : Int)) = false := by simpa using i1
          clear hin
          go_wp2_with fail
          go_quiet ((go_at_call 42; exact Calls.quiet_of_same (HQ.out _)))
          go_wp2_with fail
          go_roundw
          case rel => exact ⟨j + 1, by omega, by go_num, bl_drewN HR.out _⟩
          case measure => simp [intOf]; omega
    · have e : j = len := by omega
      subst e
      go_wp2_with fail
      go_loopw [11, 12, 13] (fun i _ _ wr => ∃ k : Nat, 1 ≤ k ∧ k ≤ sl + 1 ∧ i = .int .i64 k ∧ Below W0.heap.size W0 wr) (fun i _ _ _ => sl + 1 - (intOf i).toNat)
      case atStart => exact ⟨1, by omega, by omega, rfl, HR.out⟩
      case round =>
        obtain ⟨k, hk1, hk, rfl, hbr⟩ := hrel
        have HR2 := Lib.hid hbr
        clear hbr
        by_cases hlk : k < sl
        · obtain ⟨k, rfl⟩ : ∃ i, k = i + 1 := ⟨k - 1, by omega⟩
          obtain ⟨be, oe, p, rfl, hbe, hp, hdp, p0⟩ := at1 E4.out HR2.out (show k < sl by omega)
          obtain ⟨be', oe', q, hA, hbe', hq, hdq, q0⟩ := at1 E4.out HR2.out hlk
          injection hA with hA
          injection hA with ea eb
          subst ea eb
          obtain ⟨i1, i2, P, Q, rfl, rfl, hP, hQ, hPQ⟩ := HSRT.out k p q hp hq
          have h1 := (List.getElem?_eq_some_iff.1 hP).1
          have h2 := (List.getElem?_eq_some_iff.1 hQ).1
          rw [HL.out] at h1 h2
          obtain ⟨b, off, x, y, z, rfl, hbl, hx, hd, g0, g1, g2⟩ := at3 S4.out HR2.out h1
          obtain ⟨b', off', x', y', z', hA, hbl', hx', hd', k0, k1', k2⟩ := at3 S4.out HR2.out h2
          injection hA with hA
          injection hA with ea eb
          subst ea eb
          rw [hx] at hP
          rw [hx'] at hQ
          injection hP with hP
          injection hQ with hQ
          subst hP hQ
          dsimp only at hPQ
          have x1 : IntKind.i64.wrap (((k + 1 : Nat) : Int) - 1) = (k : Int) := by rw [IntWalk.i64_in _ (by omega)]; omega
          have x2 : (0 : Int) ≤ (k : Int) := by omega
          have x3 : (k : Int) < (sl : Int) := by omega
          have x4 : (k : Int) + 1 < (sl : Int) := by omega
          have x5 : ((k : Int) + 1).toNat = k + 1 := by omega
          have x6 : (0 : Int) ≤ (k : Int) + 1 := by omega
          have HB2 := Lib.hid (below_alloc (below_alloc HR2.out (.cells #[.int .i64 x, .int .i64 y, .int .i64 z] 28)) (.cells #[.int .i64 x', .int .i64 y', .int .i64 z'] 28))
          have hg : ¬ x' < x := by omega
          clear hx hd hx' hd' hp hq hdp hdq
          have X1 := Lib.hid ((boxAt_new wr x y z).below (below_alloc (Below.refl _ (wr.alloc (.cells #[.int .i64 x, .int .i64 y, .int .i64 z] 28))) (.cells #[.int .i64 x', .int .i64 y', .int .i64 z'] 28)) (Nat.le_refl _))
          have X2 := Lib.hid (boxAt_new (wr.alloc (.cells #[.int .i64 x, .int .i64 y, .int .i64 z] 28)) x' y' z')
          have HZ := Lib.hid (show (wr.alloc (.cells #[.int .i64 x, .int .i64 y, .int .i64 z] 28)).heap.size = wr.heap.size + 1 by simp)
          rw [HZ.out] at X2
          have hb2 := HB2.out
          have E5 := Lib.hid (E4.out.below hb2)
          have e1 := (below_alloc (below_alloc (Below.refl wr.heap.size wr) (.cells #[.int .i64 x, .int .i64 y, .int .i64 z] 28)) (.cells #[.int .i64 x', .int .i64 y', .int .i64 z'] 28)).cell (p := ⟨be, oe + k, none⟩) hbe
          have e2 := (below_alloc (below_alloc (Below.refl wr.heap.size wr) (.cells #[.int .i64 x, .int .i64 y, .int .i64 z] 28)) (.cells #[.int .i64 x', .int .i64 y', .int .i64 z'] 28)).cell (p := ⟨be, oe + (k + 1), none⟩) hbe
          rw [p0] at e1
          rw [q0] at e2
          have E1 := Lib.hid e1
          have E2 := Lib.hid e2
          clear hb2 e1 e2
          go_upto_region 18 with (fail)
          generalize (wr.alloc (.cells #[.int .i64 x, .int .i64 y, .int .i64 z] 28)).alloc (.cells #[.int .i64 x', .int .i64 y', .int .i64 z'] 28) = W5 at *
          generalize wr.heap.size + 1 = G2 at *
          generalize wr.heap.size = G1 at *
          have e1 := E1.out
          have e2 := E2.out
          obtain ⟨m0, m1, m2⟩ := X1.out.cells
          obtain ⟨m3, m4, m5⟩ := X2.out.cells
          clear p0 q0 g0 g1 g2 k0 k1' k2 hbe hbe' hbl hbl' HR2
          rcases hPQ with a | ⟨a, b⟩
          · have a2 : (x == x') = false := by simp; omega
            go_quiet (fail)
            go_wp2_with fail
            go_roundw
            case rel => exact ⟨k + 1 + 1, by omega, by omega, by go_num, bl_drewN HB2.out _⟩
            case measure => simp [intOf]; omega
          · subst a
            have b2 : ¬ i2 ≤ i1 := by omega
            go_quiet (fail)
            go_wp2_with fail
            go_roundw
            case rel => exact ⟨k + 1 + 1, by omega, by omega, by go_num, bl_drewN HB2.out _⟩
            case measure => simp [intOf]; omega
        · have B5 := Lib.hid (below_trans B4.out HR2.out)
          by_cases hse : s = n
          · have HZ := Lib.hid (show sl = 0 by rw [← HSL.out, HEND.out hse]; rfl)
            have hz := HZ.out
            subst hz
            subst hse
            go_wp2_with fail
            go_ret
            exact ⟨rfl, B5.out⟩
          · have hs2 : s < n := by omega
            go_wp2_with fail
            go_ret
            exact ⟨rfl, B5.out⟩
end Go.Proofs.Ytdfgogcefnamcaa
