/- Walk of FnBillDrop. -/
import Derived.Test.YtdfgogcefnamcaaDrawN
import Derived.Test.YtdfgogcefnamcaaBPlain
import Derived.Test.YtdfgogcefnamcaaBMoves
import Derived.Test.YtdfgogcefnamcaaWalkD
import Derived.Test.YtdfgogcefnamcaaWalkE
import Derived.Test.YtdfgogcefnamcaaStkR
import Derived.Test.YtdfgogcefnamcaaSameP
import Derived.Deep.RegionHeld3
import Derived.Deep.Cut
set_option linter.unusedVariables false
namespace Go.Proofs.Ytdfgogcefnamcaa
open Go.RowKit

set_option maxRecDepth 20000 in
set_option maxHeartbeats 6400000 in
theorem lawFnBillDrop_walk (A0 : Option Addr) (len0 cap0 : Nat) (xs0 : List Int) (w : World) (h0 : SlE 1 encU w A0 len0 xs0) (hb0 : Bytes xs0) (hc0 : len0 ≤ cap0) :
    Calls Try.prog 11 #[.slice A0 len0 cap0] w (Only (.bool true) w) := by
  have H0 := Lib.hid h0
  have HB0 := Lib.hid hb0
  clear h0 hb0
  by_cases hbig : (len0 : Int) ≤ 1048576
  rotate_left
  · go_enter Try.func11, Try.ntmps11
    go_wp2_with fail
    go_ret
    exact ⟨rfl, Below.refl _ _⟩
  go_enter Try.func11, Try.ntmps11
  go_wp2_with fail
  refine (drawBillDrop_any A0 len0 cap0 xs0 w H0.out HB0.out (by omega) hc0).mono ?_
  rintro e w1 ⟨n, v, xs, k, rfl, n0, n1, hl, k0, k1, hown, hb⟩
  clear H0 HB0
  obtain ⟨n, rfl⟩ : ∃ i : Nat, n = i := ⟨n.toNat, by omega⟩
  obtain ⟨A, c, rfl, -, hlc⟩ := hown.slc enc3_len rfl
  generalize hlen : xs.length = len at *
  have HL := Lib.hid hlen
  have S1 := Lib.hid (sl_of_own_at enc3_len hown hlen)
  have B1 := Lib.hid hb
  clear hown hb hlen
  by_cases hok : BillOk n xs ∧ 0 ≤ k ∧ k < len
  rotate_left
  · have HN := Lib.hid hok
    clear hok
    go_wp2_with fail
    refine (implBillDrop_no A n k len c xs w1 S1.out (by omega) HN.out).mono ?_
    rintro e w2 ⟨v2, rfl, hown, hb⟩
    obtain ⟨A2, c2, rfl, -, hc2⟩ := hown.slc enc3_len (n := 0) rfl
    have S2 := Lib.hid (S1.out.below hb)
    have B2 := Lib.hid (below_trans B1.out hb)
    have E2 := Lib.hid (sl_of_own_at enc3_len hown rfl)
    clear hb S1 B1 hown
    go_wp2_with fail
    refine (specBillDrop_no A n k len c xs w2 S2.out (by omega) HN.out).mono ?_
    rintro e w3 ⟨v3, rfl, hown, hb⟩
    obtain ⟨A3, c3, rfl, -, hc3⟩ := hown.slc enc3_len (n := 0) rfl
    have E3 := Lib.hid (E2.out.below hb)
    have B3 := Lib.hid (below_trans B2.out hb)
    have F3 := Lib.hid (sl_of_own_at enc3_len hown rfl)
    clear hb S2 E2 B2 hown
    go_wp2_with fail
    refine (sameParcels_yes A2 A3 0 c2 c3 [] w3 E3.out F3.out (by omega)).mono ?_
    rintro e w4 ⟨rfl, hb⟩
    have E4 := Lib.hid (E3.out.below hb)
    have F4 := Lib.hid (F3.out.below hb)
    have B4 := Lib.hid (below_trans B3.out hb)
    clear hb E3 F3 B3
    go_wp2_with fail
    refine (sameParcels_yes A2 A3 0 c2 c3 [] w4 E4.out F4.out (by omega)).mono ?_
    rintro e w5 ⟨rfl, hb⟩
    have E5 := Lib.hid (E4.out.below hb)
    have F5 := Lib.hid (F4.out.below hb)
    have B5 := Lib.hid (below_trans B4.out hb)
    clear hb E4 F4 B4
    go_wp2_with fail
    go_ret
    exact ⟨rfl, B5.out⟩
  obtain ⟨hB, hk0, hk1⟩ := hok
  obtain ⟨k, rfl⟩ : ∃ i : Nat, k = i := ⟨k.toNat, by omega⟩
  have hkl : k < len := by omega
  have HOK := Lib.hid hB
  have hB2 := bill_sub hB (List.eraseIdx_sublist xs k)
  have HOK2 := Lib.hid hB2
  have HEL := Lib.hid (show (xs.eraseIdx k).length = len - 1 by rw [List.length_eraseIdx, if_pos (by rw [HL.out]; exact hkl), HL.out])
  obtain ⟨x, y, z, hp⟩ : ∃ x y z, xs[k]? = some ⟨x, y, z⟩ := ⟨_, _, _, List.getElem?_eq_getElem (by rw [HL.out]; exact hkl)⟩
  have HP := Lib.hid hp
  have hokp := hB.2.2.2.1 _ (mem_at hp)
  have hmul := okP_mul (n := n) (by omega) hokp
  unfold OkP at hokp
  dsimp only at hokp hmul
  have hrm := room_erase hB hp
  have hpe := pound_erase hp
  dsimp only at hrm hpe
  have hms := mv_sub (List.eraseIdx_sublist xs k)
  have hm0 := mv_nonneg (xs.eraseIdx k)
  have hpb := pound_bd (n := n) (by omega) xs hB.2.2.2.1
  have hpb2 := pound_bd (n := n) (by omega) (xs.eraseIdx k) hB2.2.2.2.1
  rw [HL.out] at hpb
  have HMV : Hid (∀ (zs : List T3) (l : Nat) (A' : Option Addr) (c' : Nat) (W : World), BillOk n zs → SlE 3 enc3 W A' l zs → Calls Try.prog 37 #[.int .i64 n, .slice A' l c'] W (Only (.int .i64 (mv zs)) W)) := fun zs l A' c' W hB h => by
    have := implBillMoves_yes A' n l c' zs W h hB
    rw [moves_eq hB.2.2.2.1, mvs_mv] at this
    exact this
  have HM2 := Lib.hid (fun (W : World) (h : SlE 3 enc3 W A len xs) => HMV.out xs len A c W HOK.out h)
  have HM1 := Lib.hid (fun (A' : Option Addr) (c' : Nat) (W : World) (h : SlE 3 enc3 W A' (len - 1) (xs.eraseIdx k)) => HMV.out _ (len - 1) A' c' W HOK2.out h)
  have HP2 := Lib.hid (fun (W : World) (h : SlE 3 enc3 W A len xs) => implBillPound_yes A n len c xs W h (by omega) HOK.out)
  have HP1 := Lib.hid (fun (A' : Option Addr) (c' : Nat) (W : World) (h : SlE 3 enc3 W A' (len - 1) (xs.eraseIdx k)) => implBillPound_yes A' n (len - 1) c' _ W h (by omega) HOK2.out)
  have HRM := Lib.hid (fun (A' : Option Addr) (c' : Nat) (W : World) (h : SlE 3 enc3 W A' (len - 1) (xs.eraseIdx k)) => implBillRoom_yes A' n x y (len - 1) c' _ W h (by omega) HOK2.out ⟨by omega, by omega, by omega⟩)
  rw [hpe] at HP1 hpb2
  generalize hpr : z * (y - x) = pr at *
  have HPR := Lib.hid hpr
  clear HMV hB hB2 hp hpe hk0 hk1 hpr
  generalize mv (xs.eraseIdx k) = m1 at *
  generalize mv xs = m2 at *
  generalize pound xs = P0 at *
  generalize roomTo (xs.eraseIdx k) x (y - x).toNat = rm at *
  obtain ⟨u0, u1⟩ := hpb
  obtain ⟨u2, u3⟩ := hpb2
  obtain ⟨u4, u5⟩ := hmul
  go_wp2_with fail
  refine (implBillDrop_yes A n k len c xs w1 S1.out (by omega) hlc HOK.out hkl).mono ?_
  rintro e w2 ⟨v2, rfl, hown, hb⟩
  obtain ⟨A2, c2, rfl, -, hc2⟩ := hown.slc enc3_len (n := (len - 1)) HEL.out
  have S2 := Lib.hid (S1.out.below hb)
  have B2 := Lib.hid (below_trans B1.out hb)
  have E2 := Lib.hid (sl_of_own_at enc3_len hown HEL.out)
  clear hb S1 B1 hown
  go_wp2_with fail
  refine (specBillDrop_yes A n k len c xs w2 S2.out (by omega) hlc HOK.out hkl).mono ?_
  rintro e w3 ⟨v3, rfl, hown, hb⟩
  obtain ⟨A3, c3, rfl, -, hc3⟩ := hown.slc enc3_len (n := (len - 1)) HEL.out
  have S3 := Lib.hid (S2.out.below hb)
  have E3 := Lib.hid (E2.out.below hb)
  have B3 := Lib.hid (below_trans B2.out hb)
  have F3 := Lib.hid (sl_of_own_at enc3_len hown HEL.out)
  clear hb S2 E2 B2 hown
  go_wp2_with fail
  refine (sameParcels_yes A2 A3 (len - 1) c2 c3 _ w3 E3.out F3.out (by omega)).mono ?_
  rintro e w4 ⟨rfl, hb⟩
  have S4 := Lib.hid (S3.out.below hb)
  have E4 := Lib.hid (E3.out.below hb)
  have B4 := Lib.hid (below_trans B3.out hb)
  clear hb S3 E3 F3 B3
  obtain ⟨b, off, x', y', z', hA, hbl, hx, hd, g0, g1, g2⟩ := at3 S4.out (Below.refl _ w4) hkl
  rw [HP.out] at hx
  injection hx with hx
  injection hx with a1 a2 a3
  subst a1 a2 a3 hA
  clear hd
  have X5 := Lib.hid (boxAt_new w4 x y z)
  have S5 := Lib.hid (S4.out.alloc (.cells #[.int .i64 x, .int .i64 y, .int .i64 z] 28))
  have E5 := Lib.hid (E4.out.alloc (.cells #[.int .i64 x, .int .i64 y, .int .i64 z] 28))
  have B5 := Lib.hid (below_alloc B4.out (.cells #[.int .i64 x, .int .i64 y, .int .i64 z] 28))
  go_upto_region 9 with (fail)
  generalize w4.alloc (.cells #[.int .i64 x, .int .i64 y, .int .i64 z] 28) = W5 at *
  generalize w4.heap.size = G at *
  clear g0 g1 g2 S4 E4 B4 hbl
  have HK := Lib.hid (fun (W : World) (h : Below W5.heap.size W5 W) => (X5.out.below h (Nat.le_refl _)).cells)
  have D5 := Lib.hid (Below.refl W5.heap.size W5).drew
  have Sd := Lib.hid S5.out.drew
  have Ed := Lib.hid E5.out.drew
  have x0 : IntKind.i64.wrap ((len : Int) - 1) = ((len - 1 : Nat) : Int) := by rw [IntWalk.i64_in _ (by omega)]; omega
  have x1 : IntKind.i64.wrap (y - x) = y - x := IntWalk.i64_in _ (by omega)
  have x2 : IntKind.i64.wrap (z * (y - x)) = pr := by rw [HPR.out]; exact IntWalk.i64_in _ (by omega)
  have x3 : IntKind.i64.wrap (P0 - pr) = P0 - pr := IntWalk.i64_in _ (by omega)
  go_region_held3 (fun W => W.cell? ⟨G, 0, none⟩ = some (.int .i64 x) ∧ W.cell? ⟨G, 1, none⟩ = some (.int .i64 y) ∧ W.cell? ⟨G, 2, none⟩ = some (.int .i64 z))
    (first | exact HK.out _ D5.out | exact HK.out _ C6.out | exact HK.out _ C7.out | exact HK.out _ C8.out | exact HK.out _ C9.out | exact HK.out _ C10.out | fail)
    (first
      | (go_at_call 37; (with_reducible_and_instances refine (HM1.out A2 c2 _ Ed.out).mono ?_); rintro e w6 ⟨rfl, hb6⟩; have C6 := Lib.hid (below_trans D5.out hb6); have S6 := Lib.hid (Sd.out.below hb6); have E6 := Lib.hid (Ed.out.below hb6); clear hb6)
      | (go_at_call 37; (with_reducible_and_instances refine (HM2.out _ S6.out).mono ?_); rintro e w7 ⟨rfl, hb7⟩; have C7 := Lib.hid (below_trans C6.out hb7); have S7 := Lib.hid (S6.out.below hb7); have E7 := Lib.hid (E6.out.below hb7); clear hb7)
      | (go_at_call 33; (with_reducible_and_instances refine (HRM.out A2 c2 _ E7.out).mono ?_); rintro e w8 ⟨rfl, hb8⟩; have C8 := Lib.hid (below_trans C7.out hb8); have S8 := Lib.hid (S7.out.below hb8); have E8 := Lib.hid (E7.out.below hb8); clear hb8)
      | (go_at_call 21; (with_reducible_and_instances refine (HP1.out A2 c2 _ E8.out).mono ?_); rintro e w9 ⟨rfl, hb9⟩; have C9 := Lib.hid (below_trans C8.out hb9); have S9 := Lib.hid (S8.out.below hb9); clear hb9)
      | (go_at_call 21; (with_reducible_and_instances refine (HP2.out _ S9.out).mono ?_); rintro e w10 ⟨rfl, hb10⟩; have C10 := Lib.hid (below_trans C9.out hb10); clear hb10)
      | fail)
  clear x0 x1 x2 x3
  have B6 := Lib.hid (below_trans B5.out C10.out)
  go_wp2_with fail
  go_ret
  exact ⟨by simp <;> omega, B6.out⟩
end Go.Proofs.Ytdfgogcefnamcaa
