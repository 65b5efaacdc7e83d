/- Walk of FnBookings. -/
import Derived.Test.YtkknfhabfmpogaaSDrawC
import Derived.Test.YtkknfhabfmpogaaSWalkH
import Derived.Deep.QuietTactic
import Derived.BigQuiet
import Derived.Deep.Cut
set_option linter.unusedVariables false
namespace Go.Proofs.Ytkknfhabfmpogaa
open Go.RowKit

theorem backB_next {xs : List B3} {k : Nat} {x : B3} (h : xs[k]? = some x) : (xs.drop k).reverse = (xs.drop (k + 1)).reverse ++ [x] := by
  obtain ⟨h1, h2⟩ := List.getElem?_eq_some_iff.1 h
  rw [List.drop_eq_getElem_cons h1, List.reverse_cons, h2]
set_option maxRecDepth 20000 in
set_option maxHeartbeats 6400000 in
theorem lawFnBookings_walk (A0 : Option Addr) (len0 cap0 : Nat) (xs0 : List Int) (A1 : Option Addr) (len1 cap1 : Nat) (xs1 : List Int) (w : World) (h0 : SlE 1 encU w A0 len0 xs0) (hb0 : Bytes xs0) (hc0 : len0 ≤ cap0) (h1 : SlE 1 encU w A1 len1 xs1) (hb1 : Bytes xs1) (hc1 : len1 ≤ cap1) :
    Calls Try.prog 3 #[.slice A0 len0 cap0, .slice A1 len1 cap1] w (Only (.bool true) w) := by
  have H0 := Lib.hid h0
  have HB0 := Lib.hid hb0
  clear h0 hb0 h1 hb1
  by_cases hbig : (len0 : Int) ≤ 1048576
  rotate_left
  · go_enter Try.func3, Try.ntmps3
    go_wp2_with fail
    go_ret
    exact ⟨rfl, Below.refl _ _⟩
  by_cases hbig1 : (len1 : Int) ≤ 1048576
  rotate_left
  · go_enter Try.func3, Try.ntmps3
    go_wp2_with fail
    go_ret
    exact ⟨rfl, Below.refl _ _⟩
  go_enter Try.func3, Try.ntmps3
  go_wp2_with fail
  refine (drawBookingsValid_any A0 len0 cap0 xs0 w H0.out HB0.out (by omega) hc0).mono ?_
  rintro e w1 ⟨n, v, xs, rfl, n0, n1, hl, hown, hb⟩
  clear H0 HB0
  obtain ⟨n, rfl⟩ : ∃ i : Nat, n = i := ⟨n.toNat, by omega⟩
  obtain ⟨A, c, rfl, -, hlc⟩ := hown.slc encB_len rfl
  generalize hlen : xs.length = len at *
  have HL := Lib.hid hlen
  have S1 := Lib.hid (sl_of_own_at encB_len hown hlen)
  have B1 := Lib.hid hb
  clear hown hb hlen
  by_cases hok : BookOk n xs
  rotate_left
  · have HN := Lib.hid hok
    clear hok
    go_wp2_with fail
    refine (implBookingsValid_any A n len c xs w1 S1.out (by omega)).mono ?_
    intro e w2 hp
    obtain ⟨rfl, hb⟩ := hp.no HN.out
    clear hp
    have S2 := Lib.hid (S1.out.below hb)
    have B2 := Lib.hid (below_trans B1.out hb)
    clear hb S1 B1
    go_wp2_with fail
    refine (specBookingsValid_any A n len c xs w2 S2.out (by omega)).mono ?_
    intro e w3 hp
    obtain ⟨rfl, hb⟩ := hp.no HN.out
    clear hp
    have S3 := Lib.hid (S2.out.below hb)
    have B3 := Lib.hid (below_trans B2.out hb)
    clear hb S2 B2
    go_wp2_with fail
    go_ret
    exact ⟨rfl, B3.out⟩
  have HOK := Lib.hid hok
  have hn7 := hok.2.1
  obtain ⟨k, hk, hkq⟩ : ∃ k : Nat, k ≤ len ∧ (len1 : Int) % ((len : Int) + 1) = k := ⟨len1 % (len + 1), by have := Nat.mod_lt len1 (show 0 < len + 1 by omega); omega, by rw [Int.natCast_emod]; rfl⟩
  have HT := Lib.hid (book_sub hok (List.take_sublist k xs))
  have HR := Lib.hid (book_perm hok (List.reverse_perm xs))
  have HRL := Lib.hid (show xs.reverse.length = len by rw [List.length_reverse, HL.out])
  have HPL := Lib.hid (show (plan xs n).length = len by rw [plan_len hok, HL.out])
  clear hok
  have i1 : (0 : Int) ≤ (k : Int) := by omega
  have i2 : (k : Int) ≤ (c : Int) := by omega
  have i3 : (k : Int) ≤ (len : Int) := by omega
  have i4 : (len : Int) ≤ (c : Int) := by omega
  go_wp2_with fail
  refine (implBookingsValid_any A n len c xs w1 S1.out (by omega)).mono ?_
  intro e w2 hp
  obtain ⟨rfl, hb⟩ := hp.yes HOK.out
  clear hp
  have S2 := Lib.hid (S1.out.below hb)
  have B2 := Lib.hid (below_trans B1.out hb)
  clear hb S1 B1
  go_wp2_with fail
  refine (specBookingsValid_any A n len c xs w2 S2.out (by omega)).mono ?_
  intro e w3 hp
  obtain ⟨rfl, hb⟩ := hp.yes HOK.out
  clear hp
  have S3 := Lib.hid (S2.out.below hb)
  have B3 := Lib.hid (below_trans B2.out hb)
  clear hb S2 B2
  obtain ⟨W0, rfl⟩ : ∃ W0, W0 = w3 := ⟨_, rfl⟩
  go_wp2_with fail
  rw [hkq]
  clear hkq
  go_loopw [11, 10] (fun i s wr => ∃ j : Nat, j ≤ len ∧ i = .int .i64 ((j : Int) - 1) ∧ OwnE 3 encB 28 W0.heap.size wr s (xs.drop j).reverse ∧ Below W0.heap.size W0 wr) (fun i _ _ => (intOf i + 1).toNat)
  case atStart => exact ⟨len, by omega, rfl, by rw [List.drop_of_length_le (by rw [HL.out]; omega)]; exact own_new W0 _ _ (Nat.le_refl _) encB_len [] #[] rfl (by simp) rfl, below_alloc (Below.refl _ _) _⟩
  case round =>
    obtain ⟨j, hj, rfl, hown, hbr⟩ := hrel
    have HO := Lib.hid hown
    have HRR := Lib.hid hbr
    clear hown hbr
    by_cases hj0 : j = 0
    rotate_left
    · obtain ⟨j, rfl⟩ : ∃ i, j = i + 1 := ⟨j - 1, by omega⟩
      have hjl : j < len := by omega
      obtain ⟨b, off, x, y, z, rfl, hbl, hx, hd, g0, g1, g2⟩ := atB S3.out HRR.out hjl
      have HN := Lib.hid (backB_next hx)
      have hl2 : (xs.drop (j + 1)).reverse.length ≤ len := by rw [List.length_reverse, List.length_drop, HL.out]; omega
      have HLN := Lib.hid hl2
      have hsz := HRR.out.size
      have e0 : ((j + 1 : Nat) : Int) - 1 = (j : Int) := by omega
      rw [e0]
      clear hx hd hl2 e0 hj0
      generalize (xs.drop (j + 1)).reverse = rs at *
      go_wp2_with (at_builtin; refine wpList_push 3 24 28 encB encB_len encB_one (by omega) ⟨x, y, z⟩ _ _ rfl rfl _ _ _ rfl Try.underlying23 info_conB rfl W0.heap.size _ _ rfl rfl rfl HO.out (by have := HLN.out; omega) (by have := HLN.out; unfold maxLen; omega) hsz ?_; intro v' w' hown' hg'; have HO' := Lib.hid hown'; have HB' := Lib.hid (below_grown HRR.out hg' HO.out (Nat.le_refl _)); clear hown' hg')
      go_roundw
      case rel => exact ⟨j, by omega, by go_num, by rw [HN.out]; exact HO'.out, HB'.out⟩
      case measure => simp [intOf]
    · subst hj0
      obtain ⟨AE, cE, rfl, hs, -⟩ := HO.out.slc encB_len HRL.out
      have E4 := Lib.hid hs
      have S4 := Lib.hid (S3.out.below HRR.out)
      have B4 := Lib.hid (below_trans B3.out HRR.out)
      obtain ⟨w4, rfl⟩ : ∃ w, w = wr := ⟨_, rfl⟩
      clear hs HO HRR
      go_wp2_with fail
      refine (implSeatingMake_yes A n len c xs w4 S4.out HOK.out).mono ?_
      rintro e w5 ⟨v5, rfl, hown, hb⟩
      obtain ⟨A5, c5, rfl, -, hc5⟩ := hown.slc encI_len (n := len) HPL.out
      have S5 := Lib.hid (S4.out.below hb)
      have E5 := Lib.hid (E4.out.below hb)
      have B5 := Lib.hid (below_trans B4.out hb)
      have X5 := Lib.hid (sl_of_own_at encI_len hown HPL.out)
      clear hb S4 E4 B4 hown
      have T5 := Lib.hid (S5.out.take hk)
      go_wp2_with fail
      refine (implBookingsValid_any A n k c (xs.take k) w5 T5.out (by omega)).mono ?_
      intro e w6 hp
      obtain ⟨rfl, hb⟩ := hp.yes HT.out
      clear hp
      have S6 := Lib.hid (S5.out.below hb)
      have E6 := Lib.hid (E5.out.below hb)
      have B6 := Lib.hid (below_trans B5.out hb)
      clear hb S5 E5 X5 T5 B5
      go_wp2_with fail
      refine (implBookingsValid_any AE n len cE xs.reverse w6 E6.out (by omega)).mono ?_
      intro e w7 hp
      obtain ⟨rfl, hb⟩ := hp.yes HR.out
      clear hp
      have S7 := Lib.hid (S6.out.below hb)
      have E7 := Lib.hid (E6.out.below hb)
      have B7 := Lib.hid (below_trans B6.out hb)
      clear hb S6 E6 B6
      go_wp2_with fail
      go_ret
      exact ⟨rfl, B7.out⟩
end Go.Proofs.Ytkknfhabfmpogaa
