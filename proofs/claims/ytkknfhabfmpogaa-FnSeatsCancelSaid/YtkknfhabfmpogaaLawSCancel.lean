/- Walk of FnSeatsCancel. -/
import Derived.Test.YtkknfhabfmpogaaSDrawC
import Derived.Test.YtkknfhabfmpogaaSWalkI
import Derived.Test.YtkknfhabfmpogaaSWalkJ
import Derived.Test.YtkknfhabfmpogaaSWalkL
import Derived.Test.YtkknfhabfmpogaaSameB
import Derived.Test.YtkknfhabfmpogaaSMost
import Derived.Test.YtkknfhabfmpogaaCellsB
import Derived.Deep.QuietTactic
import Derived.BigQuiet
import Derived.Deep.RegionHeld3
set_option linter.unusedVariables false
namespace Go.Proofs.Ytkknfhabfmpogaa
open Go.RowKit

set_option maxRecDepth 20000 in
set_option maxHeartbeats 6400000 in
theorem lawFnSeatsCancel_walk (A0 : Option Addr) (len0 cap0 : Nat) (xs0 : List Int) (w : World) (h0 : SlE 1 encU w A0 len0 xs0) (hb0 : Bytes xs0) (hc0 : len0 ≤ cap0) :
    Calls Try.prog 8 #[.slice A0 len0 cap0] w (Only (.bool true) w) := by
  have H0 := Lib.hid h0
  have HB0 := Lib.hid hb0
  clear h0 hb0
  by_cases hbig : (len0 : Int) ≤ 1048576
  rotate_left
  · go_enter Try.func8, Try.ntmps8
    go_wp2_with fail
    go_ret
    exact ⟨rfl, Below.refl _ _⟩
  go_enter Try.func8, Try.ntmps8
  go_wp2_with fail
  refine (drawSeatsCancel_any A0 len0 cap0 xs0 w H0.out HB0.out (by omega) hc0).mono ?_
  rintro e w1 ⟨n, v, xs, k, rfl, n0, n1, hl, kk0, kk1, hown, hb⟩
  clear H0 HB0
  obtain ⟨n, rfl⟩ : ∃ i : Nat, n = i := ⟨n.toNat, by omega⟩
  obtain ⟨A, c, rfl, -, hlc⟩ := hown.slc encB_len rfl
  generalize hlen : xs.length = len at *
  have HL := Lib.hid hlen
  have S1 := Lib.hid (sl_of_own_at encB_len hown hlen)
  have B1 := Lib.hid hb
  clear hown hb hlen
  by_cases hok : BookOk n xs ∧ 0 ≤ k ∧ k < len
  rotate_left
  · have HN := Lib.hid hok
    clear hok
    go_wp2_with fail
    refine (implSeatsCancel_no A n k len c xs w1 S1.out (by omega) HN.out).mono ?_
    rintro e w2 ⟨v2, rfl, hown, hb⟩
    obtain ⟨A2, c2, rfl, -, hc2⟩ := hown.slc encB_len (n := 0) rfl
    have S2 := Lib.hid (S1.out.below hb)
    have B2 := Lib.hid (below_trans B1.out hb)
    have E2 := Lib.hid (sl_of_own_at encB_len hown rfl)
    clear hb S1 B1 hown
    go_wp2_with fail
    refine (specSeatsCancel_no A n k len c xs w2 S2.out (by omega) HN.out).mono ?_
    rintro e w3 ⟨v3, rfl, hown, hb⟩
    obtain ⟨A3, c3, rfl, -, hc3⟩ := hown.slc encB_len (n := 0) rfl
    have E3 := Lib.hid (E2.out.below hb)
    have B3 := Lib.hid (below_trans B2.out hb)
    have F3 := Lib.hid (sl_of_own_at encB_len hown rfl)
    clear hb S2 E2 B2 hown
    go_wp2_with fail
    refine (sameBookings_yes A2 A3 0 c2 c3 [] w3 E3.out F3.out (by omega)).mono ?_
    rintro e w4 ⟨rfl, hb⟩
    have E4 := Lib.hid (E3.out.below hb)
    have F4 := Lib.hid (F3.out.below hb)
    have B4 := Lib.hid (below_trans B3.out hb)
    clear hb E3 F3 B3
    go_wp2_with fail
    refine (sameBookings_yes A2 A3 0 c2 c3 [] w4 E4.out F4.out (by omega)).mono ?_
    rintro e w5 ⟨rfl, hb⟩
    have E5 := Lib.hid (E4.out.below hb)
    have F5 := Lib.hid (F4.out.below hb)
    have B5 := Lib.hid (below_trans B4.out hb)
    clear hb E4 F4 B4
    go_wp2_with fail
    go_ret
    exact ⟨rfl, B5.out⟩
  obtain ⟨hok, hk0, hk1⟩ := hok
  obtain ⟨k, rfl⟩ : ∃ i : Nat, k = i := ⟨k.toNat, by omega⟩
  have hk : k < len := by omega
  have HOK := Lib.hid hok
  have hn7 := hok.2.1
  obtain ⟨⟨x, y, z⟩, hx⟩ : ∃ q, xs[k]? = some q := ⟨_, List.getElem?_eq_getElem (by rw [HL.out]; exact hk)⟩
  have hob := hok.2.2.2.1 _ (mem_at hx)
  unfold OkB at hob
  dsimp only at hob
  obtain ⟨x, rfl⟩ : ∃ i : Nat, x = i := ⟨x.toNat, by omega⟩
  obtain ⟨y, rfl⟩ : ∃ i : Nat, y = i := ⟨y.toNat, by omega⟩
  have HX := Lib.hid hx
  have HPL := Lib.hid (show (plan xs n).length = len by rw [plan_len hok, HL.out])
  have HEL := Lib.hid (show (xs.eraseIdx k).length = len - 1 by rw [List.length_eraseIdx, HL.out, if_pos hk])
  have YEL := Lib.hid (show ((plan xs n).eraseIdx k).length = len - 1 by rw [List.length_eraseIdx, HPL.out, if_pos hk])
  have HEO := Lib.hid (book_sub hok (List.eraseIdx_sublist xs k))
  have HSO := Lib.hid (And.intro HEO.out (seat_erase (plan_all hok).1 k))
  have HBJ : Hid (BJoinOk n (xs.eraseIdx k) [⟨x, y, z⟩]) := ⟨HEO.out, book_perm hok (erase_perm hx)⟩
  have hcb := capOf_bd z
  have HFR := Lib.hid (freeTo_ge (xs.eraseIdx k) z x 1 (by omega) (y - x) (fun i h1 h2 => by
    have h3 := taken_erase xs k ⟨x, y, z⟩ i z hx
    rw [if_pos ⟨rfl, by dsimp only; omega, by dsimp only; omega⟩] at h3
    have h4 := hok.2.2.2.2 i (by omega)
    cases z
    · simp only [capOf, Bool.false_eq_true, if_false]; omega
    · simp only [capOf, if_true]; omega))
  have HFB := freeTo_bd (xs.eraseIdx k) z x (by rw [HEL.out]; omega) (y - x)
  have HFF := Lib.hid (fun (A' : Option Addr) (c' : Nat) (W : World) (h : SlE 3 encB W A' (len - 1) (xs.eraseIdx k)) => implSeatsFree_yes A' n x y (len - 1) c' z _ W h (by omega) HEO.out (by omega) (by omega))
  have HPP := Lib.hid (fun (W : World) (h : SlE 3 encB W A len xs) => implSeatingMake_yes A n len c xs W h HOK.out)
  have HIC := Lib.hid (fun (W : World) (h : SlE 3 encB W A len xs) => implSeatsCancel_yes A n k len c xs W h (by omega) hlc HOK.out hk)
  have HSC := Lib.hid (fun (W : World) (h : SlE 3 encB W A len xs) => specSeatsCancel_yes A n k len c xs W h (by omega) hlc HOK.out hk)
  clear hok hx
  generalize freeTo (xs.eraseIdx k) z x (y - x) = fr at *
  generalize plan xs n = out at *
  go_wp2_with fail
  refine (HIC.out w1 S1.out).mono ?_
  rintro e w2 ⟨v2, rfl, hown, hb⟩
  obtain ⟨A2, c2, rfl, -, hc2⟩ := hown.slc encB_len (n := len - 1) HEL.out
  have S2 := Lib.hid (S1.out.below hb)
  have B2 := Lib.hid (below_trans B1.out hb)
  have X2 := Lib.hid (sl_of_own_at encB_len hown HEL.out)
  clear hb S1 B1 hown
  go_wp2_with fail
  refine (HSC.out w2 S2.out).mono ?_
  rintro e w3 ⟨v3, rfl, hown, hb⟩
  obtain ⟨A3, c3, rfl, -, hc3⟩ := hown.slc encB_len (n := len - 1) HEL.out
  have S3 := Lib.hid (S2.out.below hb)
  have X3 := Lib.hid (X2.out.below hb)
  have B3 := Lib.hid (below_trans B2.out hb)
  have Y3 := Lib.hid (sl_of_own_at encB_len hown HEL.out)
  clear hb S2 X2 B2 hown
  go_wp2_with fail
  refine (sameBookings_yes A2 A3 (len - 1) c2 c3 (xs.eraseIdx k) w3 X3.out Y3.out (by omega)).mono ?_
  rintro e w4 ⟨rfl, hb⟩
  have S4 := Lib.hid (S3.out.below hb)
  have X4 := Lib.hid (X3.out.below hb)
  have B4 := Lib.hid (below_trans B3.out hb)
  clear hb S3 X3 Y3 B3
  obtain ⟨b, off, x', y', z', rfl, hbl, hx, hd, g0, g1, g2⟩ := atB S4.out (Below.refl _ _) hk
  rw [HX.out] at hx
  injection hx with hx
  injection hx with e1 e2 e3
  subst e1 e2 e3
  have i0 : (0 : Int) ≤ (k : Int) := by omega
  clear hd
  go_wp2_with fail
  have CZ := Lib.hid (cellsB_new w4 x y z 28)
  have S5 := Lib.hid (S4.out.alloc (.cells #[.int .i64 (x : Int), .int .i64 (y : Int), .bool z] 28))
  have X5 := Lib.hid (X4.out.alloc (.cells #[.int .i64 (x : Int), .int .i64 (y : Int), .bool z] 28))
  have B5 := Lib.hid (below_alloc B4.out (.cells #[.int .i64 (x : Int), .int .i64 (y : Int), .bool z] 28))
  clear S4 X4 B4 g0 g1 g2
  generalize hW : w4.alloc (.cells #[.int .i64 (x : Int), .int .i64 (y : Int), .bool z] 28) = w5 at *
  clear hW
  have C5 := Lib.hid (Below.refl w5.heap.size w5)
  refine (implSeatsBook_any A2 n (len - 1) c2 (xs.eraseIdx k) x y z _ true w5 X5.out (by omega) (.inl ⟨rfl, HBJ.out, rfl⟩)).mono ?_
  rintro e w6 ⟨v6, rfl, hown, hb⟩
  obtain ⟨A6, c6, rfl, -, hc6⟩ := hown.slc encB_len (n := len) (by rw [List.length_append, HEL.out]; simp; omega)
  have S6 := Lib.hid (S5.out.below hb)
  have X6 := Lib.hid (X5.out.below hb)
  have C6 := Lib.hid (below_trans C5.out hb)
  have B6 := Lib.hid (below_trans B5.out hb)
  have Q6 := Lib.hid (sl_of_own_at encB_len hown (by rw [List.length_append, HEL.out]; simp; omega))
  clear hb S5 X5 C5 B5 hown
  go_wp2_with fail
  refine (HPP.out w6 S6.out).mono ?_
  rintro e w7 ⟨v7, rfl, hown, hb⟩
  obtain ⟨A7, c7, rfl, -, hc7⟩ := hown.slc encI_len (n := len) HPL.out
  have S7 := Lib.hid (S6.out.below hb)
  have X7 := Lib.hid (X6.out.below hb)
  have C7 := Lib.hid (below_trans C6.out hb)
  have B7 := Lib.hid (below_trans B6.out hb)
  have M7 := Lib.hid (sl_of_own_at encI_len hown HPL.out)
  clear hb S6 X6 C6 B6 hown
  have k1 : (0 : Int) ≤ (k : Int) := by omega
  have hcc : len ≤ c7 := hc7
  have k2 : (k : Int) ≤ (c7 : Int) := by omega
  have k3 : (0 : Int) ≤ (k : Int) + 1 := by omega
  have k4 : (k : Int) + 1 ≤ (len : Int) := by omega
  have k5 : (k : Int) + 1 ≤ (c7 : Int) := by omega
  have k6 : (len : Int) ≤ (c7 : Int) := by omega
  have k7 : IntKind.i64.wrap ((k : Int) + 1) = (k : Int) + 1 := IntWalk.i64_in _ (by omega)
  have k8 : ((k : Int) + 1).toNat = k + 1 := by omega
  have YO1 := Lib.hid (OwnE.drew (own_new (enc := encI) (k := 1) w7 3 w7.heap.size (Nat.le_refl _) encI_len [] #[] rfl (by simp) rfl))
  have YN := Lib.hid (show (([] : List Int).length + k) * 8 ≤ 140737488355328 ∧ ([] : List Int).length + k ≤ maxLen ∧ w7.heap.size ≤ (w7.alloc (.cells #[] 3)).drew.heap.size from ⟨by simp; omega, by simp [maxLen]; omega, by simp⟩)
  have YN2 := Lib.hid (show (([] ++ out.take k).length + (len - (k + 1))) * 8 ≤ 140737488355328 ∧ ([] ++ out.take k).length + (len - (k + 1)) ≤ maxLen from by have h9 := M7.out.len; exact ⟨by simp; omega, by simp [maxLen]; omega⟩)
  have YHA := Lib.hid (below_drew (below_alloc (Below.refl _ w7) (.cells #[] 3)))
  have YHD := Lib.hid (below_drew (Below.refl w7.heap.size w7))
  go_wp2_with fail
  all_goals
   go_region_held3 (fun w' => SlE 1 encI w' A7 len out ∧ Below w7.heap.size w7 w')
    (first | exact ⟨M7.out.below YHD.out, YHD.out⟩ | exact ⟨M7.out.below YHA.out, YHA.out⟩ | (have := YHB2.out; exact ⟨M7.out.below this, this⟩) | (have := YHB3.out; exact ⟨M7.out.below this, this⟩))
    (first
      | (refine step_cat (bytes := 8) (base := w7.heap.size) encI_len encI_one (Nat.succ_pos 0) rfl (.tmp 77) (.tmp 80) _ rfl Try.underlying29 info_intN rfl _ [] rfl YO1.out rfl (SlE.take (M7.out.below YHA.out) (Nat.le_of_lt hk)) YN.out.1 YN.out.2.1 YN.out.2.2 ?_; intro v2 w8 hown2 hg2; have YHB2 := Lib.hid (below_grown YHA.out hg2 YO1.out (Nat.le_refl _)); have YO2 := Lib.hid hown2; clear hown2 hg2)
      | (refine step_cat (bytes := 8) (base := w7.heap.size) encI_len encI_one (Nat.succ_pos 0) rfl (.tmp 81) (.tmp 85) _ rfl Try.underlying29 info_intN rfl _ _ rfl YO2.out rfl (SlE.cut1 (M7.out.below YHB2.out) hk hcc) YN2.out.1 YN2.out.2 YHB2.out.size ?_; intro v3 w9 hown3 hg3; have YHB3 := Lib.hid (below_grown YHB2.out hg3 YO2.out (Nat.le_refl _)); rw [List.nil_append, ← List.eraseIdx_eq_take_drop_succ] at hown3; obtain ⟨YA, Yc, rfl, -, -⟩ := hown3.slc encI_len YEL.out; have Y9 := Lib.hid (sl_of_own_at encI_len hown3 YEL.out); clear hown3 hg3))
  all_goals
    have X9 := Lib.hid (X7.out.below YHB3.out)
    have B9 := Lib.hid (below_trans B7.out YHB3.out)
    obtain ⟨-, z0, z1, z2⟩ := cellsB_below CZ.out (below_trans C7.out YHB3.out)
    go_wp2_with fail
    all_goals
      refine (HFF.out A2 c2 w9 X9.out).mono ?_
      rintro e w10 ⟨rfl, hb⟩
      have X10 := Lib.hid (X9.out.below hb)
      have Y10 := Lib.hid (Y9.out.below hb)
      have B10 := Lib.hid (below_trans B9.out hb)
      clear hb X9 Y9 B9
      go_wp2_with fail
      refine (implSeatingValid_any A2 YA n (len - 1) c2 (len - 1) Yc (xs.eraseIdx k) (out.eraseIdx k) w10 X10.out Y10.out (by omega)).mono ?_
      intro e w11 hp
      obtain ⟨rfl, hb⟩ := hp.yes HSO.out
      clear hp
      have X11 := Lib.hid (X10.out.below hb)
      have Y11 := Lib.hid (Y10.out.below hb)
      have B11 := Lib.hid (below_trans B10.out hb)
      clear hb X10 Y10 B10
      go_wp2_with fail
      go_ret
      exact ⟨rfl, B11.out⟩
end Go.Proofs.Ytkknfhabfmpogaa
