/- Walk of FnBillJoin. -/
import Derived.Test.YtdfgogcefnamcaaDrawN
import Derived.Test.YtdfgogcefnamcaaBPlain
import Derived.Test.YtdfgogcefnamcaaBMoves
import Derived.Test.YtdfgogcefnamcaaWalkD
import Derived.Test.YtdfgogcefnamcaaWalkF
import Derived.Test.YtdfgogcefnamcaaWalkG
import Derived.Test.YtdfgogcefnamcaaStkR
import Derived.Test.YtdfgogcefnamcaaSameP
import Derived.Deep.QuietTactic
import Derived.BigQuiet
set_option linter.unusedVariables false
namespace Go.Proofs.Ytdfgogcefnamcaa
open Go.RowKit

set_option maxRecDepth 20000 in
set_option maxHeartbeats 6400000 in
theorem lawFnBillJoin_walk (A0 : Option Addr) (len0 cap0 : Nat) (xs0 : List Int) (w : World) (h0 : SlE 1 encU w A0 len0 xs0) (hb0 : Bytes xs0) (hc0 : len0 ≤ cap0) :
    Calls Try.prog 13 #[.slice A0 len0 cap0] w (Only (.bool true) w) := by
  have H0 := Lib.hid h0
  have HB0 := Lib.hid hb0
  clear h0 hb0
  by_cases hbig : (len0 : Int) ≤ 1048576
  rotate_left
  · go_enter Try.func13, Try.ntmps13
    go_wp2_with fail
    go_ret
    exact ⟨rfl, Below.refl _ _⟩
  go_enter Try.func13, Try.ntmps13
  go_wp2_with fail
  refine (drawBillJoin_any A0 len0 cap0 xs0 w H0.out HB0.out (by omega) hc0).mono ?_
  rintro e w1 ⟨n, A, B, l, m, c, d, xs, ys, rfl, n0, n1, hl, hm, ha, hb', hb⟩
  clear H0 HB0
  obtain ⟨n, rfl⟩ : ∃ i : Nat, n = i := ⟨n.toNat, by omega⟩
  have HX := Lib.hid ha.len
  have HY := Lib.hid hb'.len
  have S1 := Lib.hid ha
  have R1 := Lib.hid hb'
  have B1 := Lib.hid hb
  clear ha hb' hb
  by_cases hok : BillOk n ys ∧ JoinOk n xs ys
  rotate_left
  · have HN := Lib.hid hok
    clear hok
    go_wp2_with fail
    refine (implBillJoin_any A B n l c m d xs ys [] false w1 S1.out R1.out (by omega) (by omega) (.inr ⟨rfl, HN.out, rfl⟩)).mono ?_
    rintro e w2 ⟨v2, rfl, hown, hb⟩
    obtain ⟨A2, c2, rfl, -, hc2⟩ := hown.slc enc3_len (n := 0) rfl
    have S2 := Lib.hid (S1.out.below hb)
    have R2 := Lib.hid (R1.out.below hb)
    have B2 := Lib.hid (below_trans B1.out hb)
    have E2 := Lib.hid (sl_of_own_at enc3_len hown rfl)
    clear hb S1 R1 B1 hown
    go_wp2_with fail
    refine (specBillJoin_any A B n l c m d xs ys [] false w2 S2.out R2.out (by omega) (by omega) (.inr ⟨rfl, HN.out, rfl⟩)).mono ?_
    rintro e w3 ⟨v3, rfl, hown, hb⟩
    obtain ⟨A3, c3, rfl, -, hc3⟩ := hown.slc enc3_len (n := 0) rfl
    have E3 := Lib.hid (E2.out.below hb)
    have B3 := Lib.hid (below_trans B2.out hb)
    have F3 := Lib.hid (sl_of_own_at enc3_len hown rfl)
    clear hb S2 R2 E2 B2 hown
    go_wp2_with fail
    refine (sameParcels_yes A2 A3 0 c2 c3 [] w3 E3.out F3.out (by omega)).mono ?_
    rintro e w4 ⟨rfl, hb⟩
    have E4 := Lib.hid (E3.out.below hb)
    have F4 := Lib.hid (F3.out.below hb)
    have B4 := Lib.hid (below_trans B3.out hb)
    clear hb E3 F3 B3
    go_wp2_with fail
    refine (sameParcels_yes A2 A3 0 c2 c3 [] w4 E4.out F4.out (by omega)).mono ?_
    rintro e w5 ⟨rfl, hb⟩
    have E5 := Lib.hid (E4.out.below hb)
    have F5 := Lib.hid (F4.out.below hb)
    have B5 := Lib.hid (below_trans B4.out hb)
    clear hb E4 F4 B4
    go_wp2_with fail
    go_ret
    exact ⟨rfl, B5.out⟩
  have HOK := Lib.hid hok
  obtain ⟨hy, hx, hz⟩ := hok
  have HOX := Lib.hid hx
  have HOY := Lib.hid hy
  have HOZ := Lib.hid hz
  have HZ := Lib.hid (show (xs ++ ys).length = l + m by rw [List.length_append, HX.out, HY.out])
  have HLX := Lib.hid (loads_len xs n)
  have HLY := Lib.hid (loads_len ys n)
  have HLZ := Lib.hid (loads_len (xs ++ ys) n)
  have HAX := Lib.hid (fun (j : Nat) (h : j < n) => loads_at (xs := xs) h)
  have HAY := Lib.hid (fun (j : Nat) (h : j < n) => loads_at (xs := ys) h)
  have HAZ := Lib.hid (fun (j : Nat) (h : j < n) => loads_at (xs := xs ++ ys) h)
  have HLB := Lib.hid (fun (j : Nat) (h : j < n) => (⟨⟨load_nonneg hx.2.2.2.1 j, hx.2.2.2.2 j (by omega)⟩, ⟨load_nonneg hy.2.2.2.1 j, hy.2.2.2.2 j (by omega)⟩, load_append xs ys j⟩ : (0 ≤ load xs j ∧ load xs j ≤ 300) ∧ (0 ≤ load ys j ∧ load ys j ≤ 300) ∧ load (xs ++ ys) j = load xs j + load ys j))
  have hpx := pound_bd (n := n) (by omega) xs hx.2.2.2.1
  have hpy := pound_bd (n := n) (by omega) ys hy.2.2.2.1
  rw [HX.out] at hpx
  rw [HY.out] at hpy
  obtain ⟨px0, px1⟩ := hpx
  obtain ⟨py0, py1⟩ := hpy
  have hpz := pound_append xs ys
  have hmz := mv_append xs ys
  have hmx0 := mv_nonneg xs
  have hmy0 := mv_nonneg ys
  have hzb := runI_bd (packs (xs ++ ys)) (by rw [packs_len, HZ.out]; have := hz.2.2.1; rw [HZ.out] at this; omega) (n + 1) (by omega)
  rw [moves_eq hz.2.2.2.1, mvs_mv] at hzb
  have HIZ : Hid (∀ (A' : Option Addr) (c' : Nat) (W : World), SlE 3 enc3 W A' (l + m) (xs ++ ys) → Calls Try.prog 21 #[.int .i64 n, .slice A' (l + m) c'] W (Only (.int .i64 (pound xs + pound ys)) W)) := fun A' c' W h => by
    rw [← pound_append]
    exact implBillPound_yes A' n (l + m) c' _ W h (by omega) HOZ.out
  have HMV : Hid (∀ (zs : List T3) (k : Nat) (A' : Option Addr) (c' : Nat) (W : World), BillOk n zs → SlE 3 enc3 W A' k zs → Calls Try.prog 37 #[.int .i64 n, .slice A' k c'] W (Only (.int .i64 (mv zs)) W)) := fun zs k A' c' W hB h => by
    have := implBillMoves_yes A' n k c' zs W h hB
    rw [moves_eq hB.2.2.2.1, mvs_mv] at this
    exact this
  have HPX := Lib.hid (fun (W : World) (h : SlE 3 enc3 W A l xs) => implBillPound_yes A n l c xs W h (by omega) HOX.out)
  have HPY := Lib.hid (fun (W : World) (h : SlE 3 enc3 W B m ys) => implBillPound_yes B n m d ys W h (by omega) HOY.out)
  have HMX := Lib.hid (fun (W : World) (h : SlE 3 enc3 W A l xs) => HMV.out xs l A c W HOX.out h)
  have HMY := Lib.hid (fun (W : World) (h : SlE 3 enc3 W B m ys) => HMV.out ys m B d W HOY.out h)
  have HMZ := Lib.hid (fun (A' : Option Addr) (c' : Nat) (W : World) (h : SlE 3 enc3 W A' (l + m) (xs ++ ys)) => HMV.out _ (l + m) A' c' W HOZ.out h)
  clear hx hy hz HMV hpz
  generalize pound xs = PX at *
  generalize pound ys = PY at *
  generalize mv xs = MX at *
  generalize mv ys = MY at *
  generalize mv (xs ++ ys) = MZ at *
  obtain ⟨-, hz0, hz1⟩ := hzb
  go_wp2_with fail
  refine (implBillJoin_any A B n l c m d xs ys _ true w1 S1.out R1.out (by omega) (by omega) (.inl ⟨rfl, HOK.out, rfl⟩)).mono ?_
  rintro e w2 ⟨v2, rfl, hown, hb⟩
  obtain ⟨A2, c2, rfl, -, hc2⟩ := hown.slc enc3_len (n := (l + m)) HZ.out
  have S2 := Lib.hid (S1.out.below hb)
  have R2 := Lib.hid (R1.out.below hb)
  have B2 := Lib.hid (below_trans B1.out hb)
  have E2 := Lib.hid (sl_of_own_at enc3_len hown HZ.out)
  clear hb S1 R1 B1 hown
  go_wp2_with fail
  refine (specBillJoin_any A B n l c m d xs ys _ true w2 S2.out R2.out (by omega) (by omega) (.inl ⟨rfl, HOK.out, rfl⟩)).mono ?_
  rintro e w3 ⟨v3, rfl, hown, hb⟩
  obtain ⟨A3, c3, rfl, -, hc3⟩ := hown.slc enc3_len (n := (l + m)) HZ.out
  have S3 := Lib.hid (S2.out.below hb)
  have R3 := Lib.hid (R2.out.below hb)
  have E3 := Lib.hid (E2.out.below hb)
  have B3 := Lib.hid (below_trans B2.out hb)
  have F3 := Lib.hid (sl_of_own_at enc3_len hown HZ.out)
  clear hb S2 R2 E2 B2 hown
  go_wp2_with fail
  refine (sameParcels_yes A2 A3 (l + m) c2 c3 _ w3 E3.out F3.out (by omega)).mono ?_
  rintro e w4 ⟨rfl, hb⟩
  have S4 := Lib.hid (S3.out.below hb)
  have R4 := Lib.hid (R3.out.below hb)
  have E4 := Lib.hid (E3.out.below hb)
  have B4 := Lib.hid (below_trans B3.out hb)
  clear hb S3 R3 E3 F3 B3
  go_wp2_with fail
  refine (implBillLoads_yes A n l c xs w4 S4.out (by omega) HOX.out).mono ?_
  rintro e w5 ⟨v5, rfl, hown, hb⟩
  obtain ⟨A5, c5, rfl, -, hc5⟩ := hown.slc encI_len (n := n) HLX.out
  have S5 := Lib.hid (S4.out.below hb)
  have R5 := Lib.hid (R4.out.below hb)
  have E5 := Lib.hid (E4.out.below hb)
  have B5 := Lib.hid (below_trans B4.out hb)
  have X5 := Lib.hid (sl_of_own_at encI_len hown HLX.out)
  clear hb S4 R4 E4 B4 hown
  go_wp2_with fail
  refine (implBillLoads_yes B n m d ys w5 R5.out (by omega) HOY.out).mono ?_
  rintro e w6 ⟨v6, rfl, hown, hb⟩
  obtain ⟨A6, c6, rfl, -, hc6⟩ := hown.slc encI_len (n := n) HLY.out
  have S6 := Lib.hid (S5.out.below hb)
  have R6 := Lib.hid (R5.out.below hb)
  have E6 := Lib.hid (E5.out.below hb)
  have X6 := Lib.hid (X5.out.below hb)
  have B6 := Lib.hid (below_trans B5.out hb)
  have Y6 := Lib.hid (sl_of_own_at encI_len hown HLY.out)
  clear hb S5 R5 E5 X5 B5 hown
  go_wp2_with fail
  refine (implBillLoads_yes A2 n (l + m) c2 (xs ++ ys) w6 E6.out (by omega) HOZ.out).mono ?_
  rintro e w7 ⟨v7, rfl, hown, hb⟩
  obtain ⟨A7, c7, rfl, -, hc7⟩ := hown.slc encI_len (n := n) HLZ.out
  have S7 := Lib.hid (S6.out.below hb)
  have R7 := Lib.hid (R6.out.below hb)
  have E7 := Lib.hid (E6.out.below hb)
  have X7 := Lib.hid (X6.out.below hb)
  have Y7 := Lib.hid (Y6.out.below hb)
  have B7 := Lib.hid (below_trans B6.out hb)
  have Z7 := Lib.hid (sl_of_own_at encI_len hown HLZ.out)
  clear hb S6 R6 E6 X6 Y6 B6 hown
  have hne : ((n : Int) == (n : Int)) = true := by simp
  have hnf : ((n : Int) != (n : Int)) = false := by simp
  go_wp2_with fail
  obtain ⟨W0, rfl⟩ : ∃ W0, W0 = w7 := ⟨_, rfl⟩
  go_loopw [16] (fun i wr => ∃ j : Nat, j ≤ n ∧ i = .int .i64 j ∧ Below W0.heap.size W0 wr) (fun i _ => n - (intOf i).toNat)
  case atStart => exact ⟨0, by omega, rfl, Below.refl _ _⟩
  case round =>
    obtain ⟨j, hj, rfl, hbr⟩ := hrel
    have HR := Lib.hid hbr
    obtain ⟨W1, rfl⟩ : ∃ W1, W1 = wr := ⟨_, rfl⟩
    clear hbr
    by_cases hlt : j < n
    · obtain ⟨ba, oa, p, rfl, hba, hp, hdp, p0⟩ := at1 X7.out HR.out hlt
      obtain ⟨bb, ob, q, rfl, hbb, hq, hdq, q0⟩ := at1 Y7.out HR.out hlt
      obtain ⟨bc, oc, r, rfl, hbc, hr, hdr, r0⟩ := at1 Z7.out HR.out hlt
      have h1 := HAX.out j hlt
      have h2 := HAY.out j hlt
      have h3 := HAZ.out j hlt
      obtain ⟨⟨a0, a1⟩, ⟨b0, b1⟩, hs⟩ := HLB.out j hlt
      rw [hp] at h1
      rw [hq] at h2
      rw [hr] at h3
      injection h1 with h1
      injection h2 with h2
      injection h3 with h3
      rw [← h1, ← h2, ← h3] at hs
      rw [← h1] at a0 a1
      rw [← h2] at b0 b1
      clear hp hq hr hdp hdq hdr h1 h2 h3
      subst hs
      have x1 : IntKind.i64.wrap (p + q) = p + q := IntWalk.i64_in _ (by omega)
      go_wp2_with fail
      go_quiet (fail)
      clear x1
      go_wp2_with fail
      go_roundw
      case rel => exact ⟨j + 1, by omega, by go_num, bl_drewN HR.out _⟩
      case measure => simp [intOf]; omega
    · have e : j = n := by omega
      subst e
      have S8 := Lib.hid (S7.out.below HR.out)
      have R8 := Lib.hid (R7.out.below HR.out)
      have E8 := Lib.hid (E7.out.below HR.out)
      have B8 := Lib.hid (below_trans B7.out HR.out)
      obtain ⟨w8, rfl⟩ : ∃ w8, w8 = W1 := ⟨_, rfl⟩
      clear HR
      go_wp2_with fail
      refine (HIZ.out A2 c2 w8 E8.out).mono ?_
      rintro e w9 ⟨rfl, hb⟩
      have S9 := Lib.hid (S8.out.below hb)
      have R9 := Lib.hid (R8.out.below hb)
      have E9 := Lib.hid (E8.out.below hb)
      have B9 := Lib.hid (below_trans B8.out hb)
      clear hb S8 R8 E8 B8
      go_wp2_with fail
      refine (HPX.out w9 S9.out).mono ?_
      rintro e w10 ⟨rfl, hb⟩
      have S10 := Lib.hid (S9.out.below hb)
      have R10 := Lib.hid (R9.out.below hb)
      have E10 := Lib.hid (E9.out.below hb)
      have B10 := Lib.hid (below_trans B9.out hb)
      clear hb S9 R9 E9 B9
      go_wp2_with fail
      refine (HPY.out w10 R10.out).mono ?_
      rintro e w11 ⟨rfl, hb⟩
      have S11 := Lib.hid (S10.out.below hb)
      have R11 := Lib.hid (R10.out.below hb)
      have E11 := Lib.hid (E10.out.below hb)
      have B11 := Lib.hid (below_trans B10.out hb)
      clear hb S10 R10 E10 B10
      have x2 : IntKind.i64.wrap (PX + PY) = PX + PY := IntWalk.i64_in _ (by omega)
      go_wp2_with fail
      refine (HMZ.out A2 c2 w11 E11.out).mono ?_
      rintro e w12 ⟨rfl, hb⟩
      have S12 := Lib.hid (S11.out.below hb)
      have R12 := Lib.hid (R11.out.below hb)
      have E12 := Lib.hid (E11.out.below hb)
      have B12 := Lib.hid (below_trans B11.out hb)
      clear hb S11 R11 E11 B11
      go_wp2_with fail
      refine (HMX.out w12 S12.out).mono ?_
      rintro e w13 ⟨rfl, hb⟩
      have S13 := Lib.hid (S12.out.below hb)
      have R13 := Lib.hid (R12.out.below hb)
      have E13 := Lib.hid (E12.out.below hb)
      have B13 := Lib.hid (below_trans B12.out hb)
      clear hb S12 R12 E12 B12
      go_wp2_with fail
      refine (HMY.out w13 R13.out).mono ?_
      rintro e w14 ⟨rfl, hb⟩
      have S14 := Lib.hid (S13.out.below hb)
      have R14 := Lib.hid (R13.out.below hb)
      have E14 := Lib.hid (E13.out.below hb)
      have B14 := Lib.hid (below_trans B13.out hb)
      clear hb S13 R13 E13 B13
      have x3 : IntKind.i64.wrap (MX + MY) = MX + MY := IntWalk.i64_in _ (by omega)
      go_wp2_with fail
      go_ret
      exact ⟨by simp <;> omega, B14.out⟩
end Go.Proofs.Ytdfgogcefnamcaa
