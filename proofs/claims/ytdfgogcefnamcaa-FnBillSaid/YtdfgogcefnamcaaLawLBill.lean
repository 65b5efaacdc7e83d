/- Walk of FnBill. -/
import Derived.Test.YtdfgogcefnamcaaDrawV
import Derived.Test.YtdfgogcefnamcaaBPlain
import Derived.Test.YtdfgogcefnamcaaWalkC
import Derived.Test.YtdfgogcefnamcaaWalkF
import Derived.Deep.QuietTactic
import Derived.BigQuiet
import Derived.Deep.Cut
set_option linter.unusedVariables false
namespace Go.Proofs.Ytdfgogcefnamcaa
open Go.RowKit

theorem backP_next {xs : List T3} {k : Nat} {x : T3} (h : xs[k]? = some x) : (xs.drop k).reverse = (xs.drop (k + 1)).reverse ++ [x] := by
  obtain ⟨h1, h2⟩ := List.getElem?_eq_some_iff.1 h
  rw [List.drop_eq_getElem_cons h1, List.reverse_cons, h2]
set_option maxRecDepth 20000 in
set_option maxHeartbeats 6400000 in
theorem lawFnBill_walk (A0 : Option Addr) (len0 cap0 : Nat) (xs0 : List Int) (A1 : Option Addr) (len1 cap1 : Nat) (xs1 : List Int) (w : World) (h0 : SlE 1 encU w A0 len0 xs0) (hb0 : Bytes xs0) (hc0 : len0 ≤ cap0) (h1 : SlE 1 encU w A1 len1 xs1) (hb1 : Bytes xs1) (hc1 : len1 ≤ cap1) :
    Calls Try.prog 3 #[.slice A0 len0 cap0, .slice A1 len1 cap1] w (Only (.bool true) w) := by
  have H0 := Lib.hid h0
  have HB0 := Lib.hid hb0
  clear h0 hb0 h1 hb1
  by_cases hbig : (len0 : Int) ≤ 1048576
  rotate_left
  · go_enter Try.func3, Try.ntmps3
    go_wp2_with fail
    go_ret
    exact ⟨rfl, Below.refl _ _⟩
  by_cases hbig1 : (len1 : Int) ≤ 1048576
  rotate_left
  · go_enter Try.func3, Try.ntmps3
    go_wp2_with fail
    go_ret
    exact ⟨rfl, Below.refl _ _⟩
  go_enter Try.func3, Try.ntmps3
  go_wp2_with fail
  refine (drawBillValid_any A0 len0 cap0 xs0 w H0.out HB0.out (by omega) hc0).mono ?_
  rintro e w1 ⟨n, v, xs, rfl, n0, n1, hl, hown, hb⟩
  clear H0 HB0
  obtain ⟨n, rfl⟩ : ∃ i : Nat, n = i := ⟨n.toNat, by omega⟩
  obtain ⟨A, c, rfl, -, hlc⟩ := hown.slc enc3_len rfl
  generalize hlen : xs.length = len at *
  have HL := Lib.hid hlen
  have S1 := Lib.hid (sl_of_own_at enc3_len hown hlen)
  have B1 := Lib.hid hb
  clear hown hb hlen
  by_cases hok : BillOk n xs
  rotate_left
  · have HN := Lib.hid hok
    clear hok
    go_wp2_with fail
    refine (implBillValid_any A n len c xs w1 S1.out (by omega)).mono ?_
    intro e w2 hp
    obtain ⟨rfl, hb⟩ := hp.no HN.out
    clear hp
    have S2 := Lib.hid (S1.out.below hb)
    have B2 := Lib.hid (below_trans B1.out hb)
    clear hb S1 B1
    go_wp2_with fail
    refine (specBillValid_any A n len c xs w2 S2.out (by omega)).mono ?_
    intro e w3 hp
    obtain ⟨rfl, hb⟩ := hp.no HN.out
    clear hp
    have S3 := Lib.hid (S2.out.below hb)
    have B3 := Lib.hid (below_trans B2.out hb)
    clear hb S2 B2
    go_wp2_with fail
    go_ret
    exact ⟨rfl, B3.out⟩
  have HOK := Lib.hid hok
  have hn7 := hok.2.1
  obtain ⟨k, hk, hkq⟩ : ∃ k : Nat, k ≤ len ∧ (len1 : Int) % ((len : Int) + 1) = k := ⟨len1 % (len + 1), by have := Nat.mod_lt len1 (show 0 < len + 1 by omega); omega, by rw [Int.natCast_emod]; rfl⟩
  have HT := Lib.hid (bill_sub hok (List.take_sublist k xs))
  have HD := Lib.hid (bill_sub hok (List.drop_sublist k xs))
  have HR := Lib.hid (bill_perm hok (List.reverse_perm xs))
  have HTL := Lib.hid (show (xs.take k).length = k by rw [List.length_take, HL.out]; omega)
  have HDL := Lib.hid (show (xs.drop k).length = len - k by rw [List.length_drop, HL.out])
  have HRL := Lib.hid (show xs.reverse.length = len by rw [List.length_reverse, HL.out])
  have HLX := Lib.hid (loads_len (xs.take k) n)
  have HLY := Lib.hid (loads_len (xs.drop k) n)
  have HLZ := Lib.hid (loads_len xs n)
  have HAX := Lib.hid (fun (j : Nat) (h : j < n) => loads_at (xs := xs.take k) h)
  have HAY := Lib.hid (fun (j : Nat) (h : j < n) => loads_at (xs := xs.drop k) h)
  have HAZ := Lib.hid (fun (j : Nat) (h : j < n) => loads_at (xs := xs) h)
  have HLB := Lib.hid (fun (j : Nat) (h : j < n) => (⟨⟨load_nonneg HT.out.2.2.2.1 j, HT.out.2.2.2.2 j (by omega)⟩, ⟨load_nonneg HD.out.2.2.2.1 j, HD.out.2.2.2.2 j (by omega)⟩, (load_parts xs k j).symm⟩ : (0 ≤ load (xs.take k) j ∧ load (xs.take k) j ≤ 300) ∧ (0 ≤ load (xs.drop k) j ∧ load (xs.drop k) j ≤ 300) ∧ load xs j = load (xs.take k) j + load (xs.drop k) j))
  clear hok
  have i1 : (0 : Int) ≤ (k : Int) := by omega
  have i2 : (k : Int) ≤ (c : Int) := by omega
  have i3 : (k : Int) ≤ (len : Int) := by omega
  have i4 : (len : Int) ≤ (c : Int) := by omega
  have HKQ := Lib.hid hkq
  go_wp2_with fail
  refine (implBillValid_any A n len c xs w1 S1.out (by omega)).mono ?_
  intro e w2 hp
  obtain ⟨rfl, hb⟩ := hp.yes HOK.out
  clear hp
  have S2 := Lib.hid (S1.out.below hb)
  have B2 := Lib.hid (below_trans B1.out hb)
  clear hb S1 B1
  go_wp2_with fail
  refine (specBillValid_any A n len c xs w2 S2.out (by omega)).mono ?_
  intro e w3 hp
  obtain ⟨rfl, hb⟩ := hp.yes HOK.out
  clear hp
  have S3 := Lib.hid (S2.out.below hb)
  have B3 := Lib.hid (below_trans B2.out hb)
  clear hb S2 B2
  obtain ⟨W0, rfl⟩ : ∃ W0, W0 = w3 := ⟨_, rfl⟩
  go_wp2_with fail
  rw [hkq]
  clear hkq
  go_loopw [11, 10] (fun i s wr => ∃ j : Nat, j ≤ len ∧ i = .int .i64 ((j : Int) - 1) ∧ OwnE 3 enc3 28 W0.heap.size wr s (xs.drop j).reverse ∧ Below W0.heap.size W0 wr) (fun i _ _ => (intOf i + 1).toNat)
  case atStart => exact ⟨len, by omega, rfl, by rw [List.drop_of_length_le (by rw [HL.out]; omega)]; exact own_new W0 _ _ (Nat.le_refl _) enc3_len [] #[] rfl (by simp) rfl, below_alloc (Below.refl _ _) _⟩
  case round =>
    obtain ⟨j, hj, rfl, hown, hbr⟩ := hrel
    have HO := Lib.hid hown
    have HRR := Lib.hid hbr
    clear hown hbr
    by_cases hj0 : j = 0
    rotate_left
    · obtain ⟨j, rfl⟩ : ∃ i, j = i + 1 := ⟨j - 1, by omega⟩
      have hjl : j < len := by omega
      obtain ⟨b, off, x, y, z, rfl, hbl, hx, hd, g0, g1, g2⟩ := at3 S3.out HRR.out hjl
      have HN := Lib.hid (backP_next hx)
      have hl2 : (xs.drop (j + 1)).reverse.length ≤ len := by rw [List.length_reverse, List.length_drop, HL.out]; omega
      have HLN := Lib.hid hl2
      have hsz := HRR.out.size
      have e0 : ((j + 1 : Nat) : Int) - 1 = (j : Int) := by omega
      rw [e0]
      clear hx hd hl2 e0 hj0
      generalize (xs.drop (j + 1)).reverse = rs at *
      go_wp2_with (at_builtin; refine wpList_push 3 24 28 enc3 enc3_len enc3_one (by omega) ⟨x, y, z⟩ _ _ rfl rfl _ _ _ rfl Try.underlying23 info_conP rfl W0.heap.size _ _ rfl rfl rfl HO.out (by have := HLN.out; omega) (by have := HLN.out; unfold maxLen; omega) hsz ?_; intro v' w' hown' hg'; have HO' := Lib.hid hown'; have HB' := Lib.hid (below_grown HRR.out hg' HO.out (Nat.le_refl _)); clear hown' hg')
      go_roundw
      case rel => exact ⟨j, by omega, by go_num, by rw [HN.out]; exact HO'.out, HB'.out⟩
      case measure => simp [intOf]
    · subst hj0
      obtain ⟨AE, cE, rfl, hs, -⟩ := HO.out.slc enc3_len HRL.out
      have E4 := Lib.hid hs
      have S4 := Lib.hid (S3.out.below HRR.out)
      have B4 := Lib.hid (below_trans B3.out HRR.out)
      obtain ⟨w4, rfl⟩ : ∃ w, w = wr := ⟨_, rfl⟩
      clear hs HO HRR
      have T4 := Lib.hid (S4.out.take hk)
      have U4 := Lib.hid (S4.out.cut hk hlc)
      go_wp2_with fail
      refine (implBillLoads_yes A n k c (xs.take k) w4 T4.out (by omega) HT.out).mono ?_
      rintro e w5 ⟨v5, rfl, hown, hb⟩
      obtain ⟨A5, c5, rfl, -, hc5⟩ := hown.slc encI_len (n := n) HLX.out
      have S5 := Lib.hid (S4.out.below hb)
      have E5 := Lib.hid (E4.out.below hb)
      have T5 := Lib.hid (T4.out.below hb)
      have U5 := Lib.hid (U4.out.below hb)
      have B5 := Lib.hid (below_trans B4.out hb)
      have X5 := Lib.hid (sl_of_own_at encI_len hown HLX.out)
      clear hb S4 E4 T4 U4 B4 hown
      have U5' := U5.out
      clear U5
      by_cases hck : c = k
      case' pos =>
        rw [if_pos hck, show len - k = 0 by omega] at U5'
        have hkc := hck.symm
        clear hck
        subst hkc
      case' neg =>
        rw [if_neg hck] at U5'
      all_goals
        have U5 := Lib.hid U5'
        clear U5'
        go_wp2_with fail
        refine (implBillLoads_yes _ n _ _ (xs.drop k) w5 U5.out (by omega) HD.out).mono ?_
        rintro e w6 ⟨v6, rfl, hown, hb⟩
        obtain ⟨A6, c6, rfl, -, hc6⟩ := hown.slc encI_len (n := n) HLY.out
        have S6 := Lib.hid (S5.out.below hb)
        have E6 := Lib.hid (E5.out.below hb)
        have T6 := Lib.hid (T5.out.below hb)
        have X6 := Lib.hid (X5.out.below hb)
        have B6 := Lib.hid (below_trans B5.out hb)
        have Y6 := Lib.hid (sl_of_own_at encI_len hown HLY.out)
        clear hb S5 E5 T5 U5 X5 B5 hown
        go_wp2_with fail
        refine (implBillLoads_yes A n len _ xs w6 S6.out (by omega) HOK.out).mono ?_
        rintro e w7 ⟨v7, rfl, hown, hb⟩
        obtain ⟨A7, c7, rfl, -, hc7⟩ := hown.slc encI_len (n := n) HLZ.out
        have S7 := Lib.hid (S6.out.below hb)
        have E7 := Lib.hid (E6.out.below hb)
        have T7 := Lib.hid (T6.out.below hb)
        have X7 := Lib.hid (X6.out.below hb)
        have Y7 := Lib.hid (Y6.out.below hb)
        have B7 := Lib.hid (below_trans B6.out hb)
        have Z7 := Lib.hid (sl_of_own_at encI_len hown HLZ.out)
        clear hb S6 E6 T6 X6 Y6 B6 hown
        have hne : ((n : Int) == (n : Int)) = true := by simp
        have hnf : ((n : Int) != (n : Int)) = false := by simp
        go_wp2_with fail
        obtain ⟨W1, rfl⟩ : ∃ W1, W1 = w7 := ⟨_, rfl⟩
        go_loopw [18] (fun i wr => ∃ j : Nat, j ≤ n ∧ i = .int .i64 j ∧ Below W1.heap.size W1 wr) (fun i _ => n - (intOf i).toNat)
        case atStart => exact ⟨0, by omega, rfl, Below.refl _ _⟩
        case round =>
          obtain ⟨j, hj, rfl, hbr⟩ := hrel
          have HR2 := Lib.hid hbr
          obtain ⟨W2, rfl⟩ : ∃ W2, W2 = wr := ⟨_, rfl⟩
          clear hbr
          by_cases hlt : j < n
          · obtain ⟨ba, oa, p, rfl, hba, hp, hdp, p0⟩ := at1 X7.out HR2.out hlt
            obtain ⟨bb, ob, q, rfl, hbb, hq, hdq, q0⟩ := at1 Y7.out HR2.out hlt
            obtain ⟨bc, oc, r, rfl, hbc, hr, hdr, r0⟩ := at1 Z7.out HR2.out hlt
            have h1 := HAX.out j hlt
            have h2 := HAY.out j hlt
            have h3 := HAZ.out j hlt
            obtain ⟨⟨a0, a1⟩, ⟨b0, b1⟩, hs⟩ := HLB.out j hlt
            rw [hp] at h1
            rw [hq] at h2
            rw [hr] at h3
            injection h1 with h1
            injection h2 with h2
            injection h3 with h3
            rw [← h1, ← h2, ← h3] at hs
            rw [← h1] at a0 a1
            rw [← h2] at b0 b1
            clear hp hq hr hdp hdq hdr h1 h2 h3
            subst hs
            have x1 : IntKind.i64.wrap (p + q) = p + q := IntWalk.i64_in _ (by omega)
            go_wp2_with fail
            go_quiet (fail)
            clear x1
            go_wp2_with fail
            go_roundw
            case rel => exact ⟨j + 1, by omega, by go_num, bl_drewN HR2.out _⟩
            case measure => simp [intOf]; omega
          · have e : j = n := by omega
            subst e
            have T8 := Lib.hid (T7.out.below HR2.out)
            have E8 := Lib.hid (E7.out.below HR2.out)
            have B8 := Lib.hid (below_trans B7.out HR2.out)
            obtain ⟨w8, rfl⟩ : ∃ w8, w8 = W2 := ⟨_, rfl⟩
            clear HR2
            go_wp2_with fail
            refine (implBillValid_any A j k _ (xs.take k) w8 T8.out (by omega)).mono ?_
            intro e w9 hp
            obtain ⟨rfl, hb⟩ := hp.yes HT.out
            clear hp
            have T9 := Lib.hid (T8.out.below hb)
            have E9 := Lib.hid (E8.out.below hb)
            have B9 := Lib.hid (below_trans B8.out hb)
            clear hb T8 E8 B8
            go_wp2_with fail
            refine (implBillValid_any AE j len cE xs.reverse w9 E9.out (by omega)).mono ?_
            intro e w10 hp
            obtain ⟨rfl, hb⟩ := hp.yes HR.out
            clear hp
            have T10 := Lib.hid (T9.out.below hb)
            have E10 := Lib.hid (E9.out.below hb)
            have B10 := Lib.hid (below_trans B9.out hb)
            clear hb T9 E9 B9
            go_wp2_with fail
            go_ret
            exact ⟨rfl, B10.out⟩
end Go.Proofs.Ytdfgogcefnamcaa
