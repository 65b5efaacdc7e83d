/- Walk of FnBillAdd. -/
import Derived.Test.YtdfgogcefnamcaaDrawN
import Derived.Test.YtdfgogcefnamcaaBPlain
import Derived.Test.YtdfgogcefnamcaaBMoves
import Derived.Test.YtdfgogcefnamcaaWalkD
import Derived.Test.YtdfgogcefnamcaaWalkE
import Derived.Test.YtdfgogcefnamcaaWalkG
import Derived.Test.YtdfgogcefnamcaaStkR
import Derived.Test.YtdfgogcefnamcaaSameP
import Derived.Deep.RegionHeld3
import Derived.Deep.Cut
set_option linter.unusedVariables false
namespace Go.Proofs.Ytdfgogcefnamcaa
open Go.RowKit

set_option maxRecDepth 20000 in
set_option maxHeartbeats 6400000 in
theorem lawFnBillAdd_walk (A0 : Option Addr) (len0 cap0 : Nat) (xs0 : List Int) (w : World) (h0 : SlE 1 encU w A0 len0 xs0) (hb0 : Bytes xs0) (hc0 : len0 ≤ cap0) :
    Calls Try.prog 12 #[.slice A0 len0 cap0] w (Only (.bool true) w) := by
  have H0 := Lib.hid h0
  have HB0 := Lib.hid hb0
  clear h0 hb0
  by_cases hbig : (len0 : Int) ≤ 1048576
  rotate_left
  · go_enter Try.func12, Try.ntmps12
    go_wp2_with fail
    go_ret
    exact ⟨rfl, Below.refl _ _⟩
  go_enter Try.func12, Try.ntmps12
  go_wp2_with fail
  refine (drawBillAdd_any A0 len0 cap0 xs0 w H0.out HB0.out (by omega) hc0).mono ?_
  rintro e w1 ⟨n, v, xs, x, y, z, rfl, n0, n1, hl, ⟨x0, x1⟩, ⟨y0, y1⟩, ⟨z0, z1⟩, hown, hb⟩
  clear H0 HB0
  obtain ⟨n, rfl⟩ : ∃ i : Nat, n = i := ⟨n.toNat, by omega⟩
  obtain ⟨x, rfl⟩ : ∃ i : Nat, x = i := ⟨x.toNat, by omega⟩
  obtain ⟨A, c, rfl, -, hlc⟩ := hown.slc enc3_len rfl
  generalize hlen : xs.length = len at *
  have HL := Lib.hid hlen
  have S1 := Lib.hid ((sl_of_own_at enc3_len hown hlen).alloc (.cells #[.int .i64 (x : Int), .int .i64 y, .int .i64 z] 28))
  have B1 := Lib.hid (below_alloc hb (.cells #[.int .i64 (x : Int), .int .i64 y, .int .i64 z] 28))
  have X1 := Lib.hid (boxAt_new w1 x y z)
  clear hown hb hlen
  obtain ⟨q0, q1, q2⟩ := X1.out.cells
  go_upto_region 4 with (fail)
  generalize w1.alloc (.cells #[.int .i64 (x : Int), .int .i64 y, .int .i64 z] 28) = W1 at *
  generalize w1.heap.size = G at *
  obtain ⟨w1, rfl⟩ : ∃ w, w = W1 := ⟨_, rfl⟩
  by_cases hok : JoinOk n xs [⟨x, y, z⟩]
  rotate_left
  · have HN := Lib.hid hok
    clear hok
    go_wp2_with fail
    refine (implBillAdd_any A n len c xs x y z [] false w1 S1.out (by omega) (.inr ⟨rfl, HN.out, rfl⟩)).mono ?_
    rintro e w2 ⟨v2, rfl, hown, hb⟩
    obtain ⟨A2, c2, rfl, -, hc2⟩ := hown.slc enc3_len (n := 0) rfl
    have S2 := Lib.hid (S1.out.below hb)
    have X2 := Lib.hid (X1.out.below hb (Nat.le_refl _))
    have B2 := Lib.hid (below_trans B1.out hb)
    have E2 := Lib.hid (sl_of_own_at enc3_len hown rfl)
    clear hb S1 X1 B1 hown
    clear q0 q1 q2
    obtain ⟨q0, q1, q2⟩ := X2.out.cells
    go_wp2_with fail
    refine (specBillAdd_any A n len c xs x y z [] false w2 S2.out (by omega) (.inr ⟨rfl, HN.out, rfl⟩)).mono ?_
    rintro e w3 ⟨v3, rfl, hown, hb⟩
    obtain ⟨A3, c3, rfl, -, hc3⟩ := hown.slc enc3_len (n := 0) rfl
    have E3 := Lib.hid (E2.out.below hb)
    have B3 := Lib.hid (below_trans B2.out hb)
    have F3 := Lib.hid (sl_of_own_at enc3_len hown rfl)
    clear hb S2 X2 E2 B2 hown q0 q1 q2
    go_wp2_with fail
    refine (sameParcels_yes A2 A3 0 c2 c3 [] w3 E3.out F3.out (by omega)).mono ?_
    rintro e w4 ⟨rfl, hb⟩
    have E4 := Lib.hid (E3.out.below hb)
    have F4 := Lib.hid (F3.out.below hb)
    have B4 := Lib.hid (below_trans B3.out hb)
    clear hb E3 F3 B3
    go_wp2_with fail
    refine (sameParcels_yes A2 A3 0 c2 c3 [] w4 E4.out F4.out (by omega)).mono ?_
    rintro e w5 ⟨rfl, hb⟩
    have E5 := Lib.hid (E4.out.below hb)
    have F5 := Lib.hid (F4.out.below hb)
    have B5 := Lib.hid (below_trans B4.out hb)
    clear hb E4 F4 B4
    go_wp2_with fail
    go_ret
    exact ⟨rfl, B5.out⟩
  have HJ := Lib.hid hok
  obtain ⟨hB, hB2⟩ := hok
  have HOK := Lib.hid hB
  have HOK2 := Lib.hid hB2
  have HAL := Lib.hid (show (xs ++ [(⟨x, y, z⟩ : T3)]).length = len + 1 by rw [List.length_append, HL.out]; rfl)
  have HER : Hid ((xs ++ [(⟨x, y, z⟩ : T3)]).eraseIdx len = xs) := by rw [← HL.out]; exact erase_last xs _
  have hokp := hB2.2.2.2.1 ⟨x, y, z⟩ (by simp)
  have hmul := okP_mul (n := n) (by omega) hokp
  unfold OkP at hokp
  dsimp only at hokp hmul
  have hxn : x ≤ n := by omega
  obtain ⟨st, hst⟩ := stk_top (s := x) hB2.2.2.2.1 rfl
  have HST := Lib.hid hst
  rw [HL.out] at HST
  have hrb := (runI_bd (packs (xs ++ [(⟨x, y, z⟩ : T3)])) (by rw [packs_len]; exact hB2.2.2.1) (x + 1) (by omega)).1
  rw [hst, List.length_append, List.length_singleton] at hrb
  have hpb := pound_bd (n := n) (by omega) xs hB.2.2.2.1
  rw [HL.out] at hpb
  have hpa : pound (xs ++ [(⟨x, y, z⟩ : T3)]) = pound xs + z * (y - x) := by rw [pound_append]; simp [pound]
  have HIS := Lib.hid (fun (A' : Option Addr) (c' : Nat) (W : World) (h : SlE 3 enc3 W A' (len + 1) (xs ++ [⟨x, y, z⟩])) => implBillStack_yes A' n x (len + 1) c' _ W h HOK2.out hxn)
  rw [HST.out] at HIS
  have HDR := Lib.hid (fun (A' : Option Addr) (c' : Nat) (W : World) (h : SlE 3 enc3 W A' (len + 1) (xs ++ [⟨x, y, z⟩])) (hc : len + 1 ≤ c') => implBillDrop_yes A' n len (len + 1) c' _ W h (by omega) hc HOK2.out (by omega))
  rw [HER.out] at HDR
  have HP2 := Lib.hid (fun (W : World) (h : SlE 3 enc3 W A len xs) => implBillPound_yes A n len c xs W h (by omega) HOK.out)
  have HP1 := Lib.hid (fun (A' : Option Addr) (c' : Nat) (W : World) (h : SlE 3 enc3 W A' (len + 1) (xs ++ [⟨x, y, z⟩])) => implBillPound_yes A' n (len + 1) c' _ W h (by omega) HOK2.out)
  rw [hpa] at HP1
  generalize hsl : st.length = sl at *
  obtain ⟨L, hL⟩ : ∃ L, L = sl + 1 := ⟨_, rfl⟩
  have HSL := Lib.hid (show (st ++ [(len : Int)]).length = L by rw [List.length_append, hsl, hL]; rfl)
  have hL1 : sl < L := by omega
  have hL2 : L ≤ sl + 1 := by omega
  have HSA := Lib.hid (show (st ++ [(len : Int)])[sl]? = some (len : Int) by rw [← hsl]; simp)
  generalize hpr : z * (y - x) = pr at *
  have HPR := Lib.hid hpr
  clear hB hB2 hpa hst hpr hsl hL
  generalize st ++ [(len : Int)] = ss at *
  generalize pound xs = P0 at *
  obtain ⟨u0, u1⟩ := hpb
  obtain ⟨u4, u5⟩ := hmul
  go_wp2_with fail
  refine (implBillAdd_any A n len c xs x y z _ true w1 S1.out (by omega) (.inl ⟨rfl, HJ.out, rfl⟩)).mono ?_
  rintro e w2 ⟨v2, rfl, hown, hb⟩
  obtain ⟨A2, c2, rfl, -, hc2⟩ := hown.slc enc3_len (n := (len + 1)) HAL.out
  have S2 := Lib.hid (S1.out.below hb)
  have X2 := Lib.hid (X1.out.below hb (Nat.le_refl _))
  have B2 := Lib.hid (below_trans B1.out hb)
  have E2 := Lib.hid (sl_of_own_at enc3_len hown HAL.out)
  clear hb S1 X1 B1 hown
  clear q0 q1 q2
  obtain ⟨q0, q1, q2⟩ := X2.out.cells
  go_wp2_with fail
  refine (specBillAdd_any A n len c xs x y z _ true w2 S2.out (by omega) (.inl ⟨rfl, HJ.out, rfl⟩)).mono ?_
  rintro e w3 ⟨v3, rfl, hown, hb⟩
  obtain ⟨A3, c3, rfl, -, hc3⟩ := hown.slc enc3_len (n := (len + 1)) HAL.out
  have S3 := Lib.hid (S2.out.below hb)
  have X3 := Lib.hid (X2.out.below hb (Nat.le_refl _))
  have E3 := Lib.hid (E2.out.below hb)
  have B3 := Lib.hid (below_trans B2.out hb)
  have F3 := Lib.hid (sl_of_own_at enc3_len hown HAL.out)
  clear hb S2 X2 E2 B2 hown q0 q1 q2
  go_wp2_with fail
  refine (sameParcels_yes A2 A3 (len + 1) c2 c3 _ w3 E3.out F3.out (by omega)).mono ?_
  rintro e w4 ⟨rfl, hb⟩
  have S4 := Lib.hid (S3.out.below hb)
  have X4 := Lib.hid (X3.out.below hb (Nat.le_refl _))
  have E4 := Lib.hid (E3.out.below hb)
  have B4 := Lib.hid (below_trans B3.out hb)
  clear hb S3 X3 E3 F3 B3
  go_wp2_with fail
  refine (HDR.out A2 c2 w4 E4.out hc2).mono ?_
  rintro e w5 ⟨v5, rfl, hown, hb⟩
  obtain ⟨A5, c5, rfl, -, hc5⟩ := hown.slc enc3_len (n := len) HL.out
  have S5 := Lib.hid (S4.out.below hb)
  have X5 := Lib.hid (X4.out.below hb (Nat.le_refl _))
  have E5 := Lib.hid (E4.out.below hb)
  have B5 := Lib.hid (below_trans B4.out hb)
  have DD5 := Lib.hid (sl_of_own_at enc3_len hown HL.out)
  clear hb S4 X4 E4 B4 hown
  obtain ⟨q0, q1, q2⟩ := X5.out.cells
  go_wp2_with fail
  refine (HIS.out A2 c2 w5 E5.out).mono ?_
  rintro e w6 ⟨v6, rfl, hown, hb⟩
  obtain ⟨A6, c6, rfl, -, hc6⟩ := hown.slc encI_len (n := L) HSL.out
  have S6 := Lib.hid (S5.out.below hb)
  have X6 := Lib.hid (X5.out.below hb (Nat.le_refl _))
  have E6 := Lib.hid (E5.out.below hb)
  have DD6 := Lib.hid (DD5.out.below hb)
  have B6 := Lib.hid (below_trans B5.out hb)
  have K6 := Lib.hid (sl_of_own_at encI_len hown HSL.out)
  clear hb S5 X5 E5 DD5 B5 hown q0 q1 q2
  obtain ⟨bs, os, e0, rfl, hbs, hse, hsd, s0⟩ := at1 K6.out (Below.refl _ w6) hL1
  rw [HSA.out] at hse
  injection hse with hse
  subst hse
  clear hsd
  have HK := Lib.hid (fun (W : World) (h : Below w6.heap.size w6 W) => (⟨(X6.out.below h (Nat.le_refl _)).cells, (h.cell (p := ⟨bs, os + sl, none⟩) hbs).trans s0⟩ : (W.cell? ⟨G, 0, none⟩ = some (.int .i64 x) ∧ W.cell? ⟨G, 1, none⟩ = some (.int .i64 y) ∧ W.cell? ⟨G, 2, none⟩ = some (.int .i64 z)) ∧ W.cell? ⟨bs, os + sl, none⟩ = some (.int .i64 len)))
  clear s0
  go_upto_region 10 with (fail)
  have D6 := Lib.hid (Below.refl w6.heap.size w6).drew
  have Sd := Lib.hid S6.out.drew
  have Ed := Lib.hid E6.out.drew
  have Dd := Lib.hid D6.out
  have Xd := Lib.hid (DD6.out.drew)
  have y1 : IntKind.i64.wrap (y - (x : Int)) = y - x := IntWalk.i64_in _ (by omega)
  have y2 : IntKind.i64.wrap (z * (y - (x : Int))) = pr := by rw [HPR.out]; exact IntWalk.i64_in _ (by omega)
  have y3 : IntKind.i64.wrap (P0 + pr) = P0 + pr := IntWalk.i64_in _ (by omega)
  have y4 : IntKind.i64.wrap ((L : Int) - 1) = (sl : Int) := by rw [IntWalk.i64_in _ (by omega)]; omega
  have y5 : (0 : Int) ≤ (sl : Int) := by omega
  have y6 : (sl : Int) < (L : Int) := by omega
  go_region_held3 (fun W => (W.cell? ⟨G, 0, none⟩ = some (.int .i64 x) ∧ W.cell? ⟨G, 1, none⟩ = some (.int .i64 y) ∧ W.cell? ⟨G, 2, none⟩ = some (.int .i64 z)) ∧ W.cell? ⟨bs, os + sl, none⟩ = some (.int .i64 len))
    (first | exact HK.out _ Dd.out | exact HK.out _ C7.out | exact HK.out _ C8.out | exact HK.out _ C9.out | fail)
    (first
      | (go_at_call 30; (with_reducible_and_instances refine (sameParcels_yes A5 A len c5 c xs _ Xd.out Sd.out (by omega)).mono ?_); rintro e w7 ⟨rfl, hb7⟩; have C7 := Lib.hid (below_trans Dd.out hb7); have S7 := Lib.hid (Sd.out.below hb7); have E7 := Lib.hid (Ed.out.below hb7); clear hb7)
      | (go_at_call 21; (with_reducible_and_instances refine (HP1.out A2 c2 _ E7.out).mono ?_); rintro e w8 ⟨rfl, hb8⟩; have C8 := Lib.hid (below_trans C7.out hb8); have S8 := Lib.hid (S7.out.below hb8); clear hb8)
      | (go_at_call 21; (with_reducible_and_instances refine (HP2.out _ S8.out).mono ?_); rintro e w9 ⟨rfl, hb9⟩; have C9 := Lib.hid (below_trans C8.out hb9); clear hb9)
      | fail)
  clear y1 y2 y3 y4
  have B7 := Lib.hid (below_trans B6.out C9.out)
  go_wp2_with fail
  go_ret
  exact ⟨by simp <;> omega, B7.out⟩
end Go.Proofs.Ytdfgogcefnamcaa
