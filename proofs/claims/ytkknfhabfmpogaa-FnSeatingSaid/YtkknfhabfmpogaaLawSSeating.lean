/- Walk of FnSeating. -/
import Derived.Test.YtkknfhabfmpogaaSDrawV
import Derived.Test.YtkknfhabfmpogaaSWalkG
import Derived.Deep.QuietTactic
import Derived.BigQuiet
import Derived.Deep.Cut
import Derived.Deep.RegionHeld3
set_option linter.unusedVariables false
namespace Go.Proofs.Ytkknfhabfmpogaa
open Go.RowKit

set_option maxRecDepth 20000 in
set_option maxHeartbeats 400000 in
theorem lseatsOf_any (k : Bool) (w : World) : Calls Try.prog 21 #[.bool k] w (Same (.int .i64 (capOf k)) w) := by
  cases k
  all_goals
    simp only [capOf, Bool.false_eq_true, if_true, if_false]
    go_enter Try.func21, Try.ntmps21
    go_wp2
    go_ret
    exact ⟨rfl, rfl⟩
set_option maxRecDepth 20000 in
set_option maxHeartbeats 6400000 in
theorem lawFnSeating_walk (A0 : Option Addr) (len0 cap0 : Nat) (xs0 : List Int) (A1 : Option Addr) (len1 cap1 : Nat) (xs1 : List Int) (w : World) (h0 : SlE 1 encU w A0 len0 xs0) (hb0 : Bytes xs0) (hc0 : len0 ≤ cap0) (h1 : SlE 1 encU w A1 len1 xs1) (hb1 : Bytes xs1) (hc1 : len1 ≤ cap1) :
    Calls Try.prog 5 #[.slice A0 len0 cap0, .slice A1 len1 cap1] w (Only (.bool true) w) := by
  have H0 := Lib.hid h0
  have HB0 := Lib.hid hb0
  clear h0 hb0 h1 hb1
  by_cases hbig : (len0 : Int) ≤ 1048576
  rotate_left
  · go_enter Try.func5, Try.ntmps5
    go_wp2_with fail
    go_ret
    exact ⟨rfl, Below.refl _ _⟩
  by_cases hbig1 : (len1 : Int) ≤ 1048576
  rotate_left
  · go_enter Try.func5, Try.ntmps5
    go_wp2_with fail
    go_ret
    exact ⟨rfl, Below.refl _ _⟩
  go_enter Try.func5, Try.ntmps5
  go_wp2_with fail
  refine (drawSeatingValid_any A0 len0 cap0 xs0 w H0.out HB0.out (by omega) hc0).mono ?_
  rintro e w1 ⟨n, v, xs, v2, ys, rfl, n0, n1, hl, hl2, hown, hown2, hb⟩
  clear H0 HB0
  obtain ⟨n, rfl⟩ : ∃ i : Nat, n = i := ⟨n.toNat, by omega⟩
  obtain ⟨A, c, rfl, -, hlc⟩ := hown.slc encB_len rfl
  obtain ⟨B, c2, rfl, -, hlc2⟩ := hown2.slc encI_len rfl
  generalize hlen : xs.length = len at *
  generalize hlen2 : ys.length = len2 at *
  have HL := Lib.hid hlen
  have HL2 := Lib.hid hlen2
  have S1 := Lib.hid (sl_of_own_at encB_len hown hlen)
  have T1 := Lib.hid (sl_of_own_at encI_len hown2 hlen2)
  have B1 := Lib.hid hb
  clear hown hown2 hb hlen hlen2
  by_cases hok : BookOk n xs ∧ SeatOk xs ys
  rotate_left
  · have HN := Lib.hid hok
    clear hok
    go_wp2_with fail
    refine (implSeatingValid_any A B n len c len2 c2 xs ys w1 S1.out T1.out (by omega)).mono ?_
    intro e w2 hp
    obtain ⟨rfl, hb⟩ := hp.no HN.out
    clear hp
    have S2 := Lib.hid (S1.out.below hb)
    have T2 := Lib.hid (T1.out.below hb)
    have B2 := Lib.hid (below_trans B1.out hb)
    clear hb S1 T1 B1
    go_wp2_with fail
    refine (specSeatingValid_any A B n len c len2 c2 xs ys w2 S2.out T2.out (by omega)).mono ?_
    intro e w3 hp
    obtain ⟨rfl, hb⟩ := hp.no HN.out
    clear hp
    have S3 := Lib.hid (S2.out.below hb)
    have T3 := Lib.hid (T2.out.below hb)
    have B3 := Lib.hid (below_trans B2.out hb)
    clear hb S2 T2 B2
    go_wp2_with fail
    go_ret
    exact ⟨rfl, B3.out⟩
  have HOK := Lib.hid hok
  have HSO := Lib.hid hok.2
  have hn7 := hok.1.2.1
  have hll : len2 = len := by rw [← HL.out, ← HL2.out]; exact hok.2.1
  clear hok
  subst hll
  go_wp2_with fail
  refine (implSeatingValid_any A B n len2 c len2 c2 xs ys w1 S1.out T1.out (by omega)).mono ?_
  intro e w2 hp
  obtain ⟨rfl, hb⟩ := hp.yes HOK.out
  clear hp
  have S2 := Lib.hid (S1.out.below hb)
  have T2 := Lib.hid (T1.out.below hb)
  have B2 := Lib.hid (below_trans B1.out hb)
  clear hb S1 T1 B1
  go_wp2_with fail
  refine (specSeatingValid_any A B n len2 c len2 c2 xs ys w2 S2.out T2.out (by omega)).mono ?_
  intro e w3 hp
  obtain ⟨rfl, hb⟩ := hp.yes HOK.out
  clear hp
  have S3 := Lib.hid (S2.out.below hb)
  have T3 := Lib.hid (T2.out.below hb)
  have B3 := Lib.hid (below_trans B2.out hb)
  clear hb S2 T2 B2
  obtain ⟨W0, rfl⟩ : ∃ W0, W0 = w3 := ⟨_, rfl⟩
  go_wp2_with fail
  go_loopw [10, 11] (fun i _ wr => ∃ j : Nat, j ≤ len2 ∧ i = .int .i64 j ∧ Below W0.heap.size W0 wr) (fun i _ _ => len2 - (intOf i).toNat)
  case atStart => exact ⟨0, by omega, rfl, Below.refl _ _⟩
  case round =>
    obtain ⟨j, hj, rfl, hbr⟩ := hrel
    have HR := Lib.hid hbr
    clear hbr
    by_cases hlt : j < len2
    · obtain ⟨b, off, x, y, z, rfl, hbl, hx, hd, g0, g1, g2⟩ := atB S3.out HR.out hlt
      obtain ⟨b2, off2, o, rfl, hbl2, ho, hd2, k0⟩ := at1 T3.out HR.out hlt
      have hrg := HSO.out.2.1 j _ o hx ho
      dsimp only at hrg
      obtain ⟨o0, o1⟩ := hrg
      have d0 : decide (o < 0) = false := by simp; omega
      have HX := Lib.hid hx
      have HO := Lib.hid ho
      have i0 : (0 : Int) ≤ (j : Int) := by omega
      have i1 : (j : Int) < (len2 : Int) := by omega
      have HQ := Lib.hid (fun d => (Calls.quiet_of_same ((lseatsOf_any z (wr.drewN d)).mono fun e w' hp => ⟨hp.1, hp.2.symm⟩) : Calls Try.prog 21 #[.bool z] (wr.drewN d) (fun e w'' => e = .returned (.int .i64 (capOf z)) ∧ ∃ m, w'' = wr.drewN m)))
      clear hx hd ho hd2
      generalize capOf z = cz at *
      go_wp2_with fail
      go_quiet ((go_at_call 21; first | (with_reducible_and_instances exact HQ.out _) | fail))
      have HRq := Lib.hid (bl_drewN HR.out nq)
      generalize wr.drewN nq = W1 at *
      clear HQ
      go_wp2_with fail
      go_loopw [11] (fun i wl => ∃ k : Nat, k ≤ j ∧ i = .int .i64 k ∧ Below W0.heap.size W0 wl) (fun i _ => j - (intOf i).toNat)
      case atStart => exact ⟨0, by omega, rfl, HRq.out⟩
      case round =>
        obtain ⟨k, hk, rfl, hbr⟩ := hrel
        have HQ := Lib.hid hbr
        clear hbr HRq
        by_cases hkj : k < j
        rotate_left
        · go_wp2_with fail
          go_roundw
          case rel => exact ⟨j + 1, by omega, by go_num, HQ.out⟩
          case measure => simp [intOf]; omega
        have hkl : k < len2 := by omega
        have j0 : (0 : Int) ≤ (k : Int) := by omega
        have j1 : (k : Int) < (len2 : Int) := by omega
        obtain ⟨g0, g1, g2⟩ := cellB_of S3.out HQ.out HX.out
        have l0 := cell1_of T3.out HQ.out HO.out
        obtain ⟨⟨x', y', z'⟩, hx'⟩ : ∃ q, xs[k]? = some q := ⟨_, List.getElem?_eq_getElem (by rw [HL.out]; exact hkl)⟩
        obtain ⟨o', ho'⟩ : ∃ q, ys[k]? = some q := ⟨_, List.getElem?_eq_getElem (by rw [HL2.out]; exact hkl)⟩
        obtain ⟨q0, q1, q2⟩ := cellB_of S3.out HQ.out hx'
        have m0 := cell1_of T3.out HQ.out ho'
        have hno : o = o' → z = z' → x < y' → ¬ x' < y := fun h1 h2 h3 h4 => HSO.out.2.2 o k j _ _ hkj hx' HX.out (by rw [ho', h1]) HO.out ⟨h2, h3, h4⟩
        clear hx' ho' d0
        by_cases c0 : o = o'
        case' neg =>
          have d1 : (o == o') = false := by simpa using c0
        case' pos =>
          subst c0
          by_cases c1 : z = z'
          case' neg =>
            have d1 : (z == z') = false := by simpa using c1
          case' pos =>
            subst c1
            by_cases c2 : x < y'
            case' neg =>
              have d1 : decide (x < y') = false := by simpa using c2
            case' pos =>
              have c3 : ¬ x' < y := hno rfl rfl c2
              have d1 : decide (x' < y) = false := by simpa using c3
        all_goals
          clear hno
          go_wp2_with fail
          go_quiet (fail)
          have HQq := Lib.hid (bl_drewN HQ.out nq)
          go_wp2_with fail
          go_roundw
          case rel => exact ⟨k + 1, by omega, by go_num, HQq.out⟩
          case measure => simp [intOf]; omega
    have e : j = len2 := by omega
    subst e
    have S4 := Lib.hid (S3.out.below HR.out)
    have T4 := Lib.hid (T3.out.below HR.out)
    have B4 := Lib.hid (below_trans B3.out HR.out)
    obtain ⟨w4, rfl⟩ : ∃ w, w = wr := ⟨_, rfl⟩
    clear HR S3 T3 B3
    by_cases h0 : j = 0
    · subst h0
      go_wp2_with fail
      go_ret
      exact ⟨rfl, B4.out⟩
    have d0 : ((j : Int) == 0) = false := by simp; omega
    have hj1 : 1 ≤ (j : Int) := by omega
    obtain ⟨k, hk, hkq⟩ : ∃ k : Nat, k < j ∧ (len1 : Int) % (j : Int) = k := ⟨len1 % j, Nat.mod_lt len1 (by omega), by rw [Int.natCast_emod]⟩
    have k1 : (0 : Int) ≤ (k : Int) := by omega
    have k2 : (k : Int) ≤ (c : Int) := by omega
    have k2' : (k : Int) ≤ (c2 : Int) := by omega
    have k3 : (0 : Int) ≤ (k : Int) + 1 := by omega
    have k4 : (k : Int) + 1 ≤ (j : Int) := by omega
    have k5 : (k : Int) + 1 ≤ (c : Int) := by omega
    have k5' : (k : Int) + 1 ≤ (c2 : Int) := by omega
    have k6 : (j : Int) ≤ (c : Int) := by omega
    have k6' : (j : Int) ≤ (c2 : Int) := by omega
    have k7 : IntKind.i64.wrap ((k : Int) + 1) = (k : Int) + 1 := IntWalk.i64_in _ (by omega)
    have k8 : ((k : Int) + 1).toNat = k + 1 := by omega
    have XEL := Lib.hid (show (xs.eraseIdx k).length = j - 1 by rw [List.length_eraseIdx, HL.out, if_pos hk])
    have YEL := Lib.hid (show (ys.eraseIdx k).length = j - 1 by rw [List.length_eraseIdx, HL2.out, if_pos hk])
    have HBE := Lib.hid (And.intro (book_sub HOK.out.1 (List.eraseIdx_sublist xs k)) (seat_erase HSO.out k))
    go_wp2_with fail
    rw [hkq]
    clear hkq
    have XO1 := Lib.hid (OwnE.drew (own_new (enc := encB) (k := 3) w4 28 w4.heap.size (Nat.le_refl _) encB_len [] #[] rfl (by simp) rfl))
    have XN := Lib.hid (show (([] : List B3).length + k) * 24 ≤ 140737488355328 ∧ ([] : List B3).length + k ≤ maxLen ∧ w4.heap.size ≤ (w4.alloc (.cells #[] 28)).drew.heap.size from ⟨by simp; omega, by simp [maxLen]; omega, by simp⟩)
    have XN2 := Lib.hid (show (([] ++ xs.take k).length + (j - (k + 1))) * 24 ≤ 140737488355328 ∧ ([] ++ xs.take k).length + (j - (k + 1)) ≤ maxLen from by have h9 := S4.out.len; exact ⟨by simp; omega, by simp [maxLen]; omega⟩)
    have XHA := Lib.hid (below_drew (below_alloc (Below.refl _ w4) (.cells #[] 28)))
    have XHD := Lib.hid (below_drew (Below.refl w4.heap.size w4))
    go_wp2_with fail
    all_goals
     go_region_held3 (fun w' => SlE 3 encB w' A j xs ∧ Below w4.heap.size w4 w')
      (first | exact ⟨S4.out.below XHD.out, XHD.out⟩ | exact ⟨S4.out.below XHA.out, XHA.out⟩ | (have := XHB2.out; exact ⟨S4.out.below this, this⟩) | (have := XHB3.out; exact ⟨S4.out.below this, this⟩))
      (first
        | (refine step_cat (bytes := 24) (base := w4.heap.size) encB_len encB_one (Nat.succ_pos 2) rfl (.tmp 135) (.tmp 138) _ rfl Try.underlying23 info_conB rfl _ [] rfl XO1.out rfl (SlE.take (S4.out.below XHA.out) (Nat.le_of_lt hk)) XN.out.1 XN.out.2.1 XN.out.2.2 ?_; intro v2 w5 hown2 hg2; have XHB2 := Lib.hid (below_grown XHA.out hg2 XO1.out (Nat.le_refl _)); have XO2 := Lib.hid hown2; clear hown2 hg2)
        | (refine step_cat (bytes := 24) (base := w4.heap.size) encB_len encB_one (Nat.succ_pos 2) rfl (.tmp 139) (.tmp 143) _ rfl Try.underlying23 info_conB rfl _ _ rfl XO2.out rfl (SlE.cut (S4.out.below XHB2.out) hk hlc) XN2.out.1 XN2.out.2 XHB2.out.size ?_; intro v3 w6 hown3 hg3; have XHB3 := Lib.hid (below_grown XHB2.out hg3 XO2.out (Nat.le_refl _)); rw [List.nil_append, ← List.eraseIdx_eq_take_drop_succ] at hown3; obtain ⟨XA, Xc, rfl, -, -⟩ := hown3.slc encB_len XEL.out; have X6 := Lib.hid (sl_of_own_at encB_len hown3 XEL.out); clear hown3 hg3))
    all_goals
      have T6 := Lib.hid (T4.out.below XHB3.out)
      have B6 := Lib.hid (below_trans B4.out XHB3.out)
      clear S4 T4 B4 XO1 XN XN2 XHA XHD XHB2 XO2 XHB3
      have YO1 := Lib.hid (OwnE.drew (own_new (enc := encI) (k := 1) w6 3 w6.heap.size (Nat.le_refl _) encI_len [] #[] rfl (by simp) rfl))
      have YN := Lib.hid (show (([] : List Int).length + k) * 8 ≤ 140737488355328 ∧ ([] : List Int).length + k ≤ maxLen ∧ w6.heap.size ≤ (w6.alloc (.cells #[] 3)).drew.heap.size from ⟨by simp; omega, by simp [maxLen]; omega, by simp⟩)
      have YN2 := Lib.hid (show (([] ++ ys.take k).length + (j - (k + 1))) * 8 ≤ 140737488355328 ∧ ([] ++ ys.take k).length + (j - (k + 1)) ≤ maxLen from by have h9 := T6.out.len; exact ⟨by simp; omega, by simp [maxLen]; omega⟩)
      have YHA := Lib.hid (below_drew (below_alloc (Below.refl _ w6) (.cells #[] 3)))
      have YHD := Lib.hid (below_drew (Below.refl w6.heap.size w6))
      go_wp2_with fail
      all_goals
       go_region_held3 (fun w' => SlE 1 encI w' B j ys ∧ Below w6.heap.size w6 w')
        (first | exact ⟨T6.out.below YHD.out, YHD.out⟩ | exact ⟨T6.out.below YHA.out, YHA.out⟩ | (have := YHB2.out; exact ⟨T6.out.below this, this⟩) | (have := YHB3.out; exact ⟨T6.out.below this, this⟩))
        (first
          | (refine step_cat (bytes := 8) (base := w6.heap.size) encI_len encI_one (Nat.succ_pos 0) rfl (.tmp 145) (.tmp 148) _ rfl Try.underlying29 info_intN rfl _ [] rfl YO1.out rfl (SlE.take (T6.out.below YHA.out) (Nat.le_of_lt hk)) YN.out.1 YN.out.2.1 YN.out.2.2 ?_; intro v2 w7 hown2 hg2; have YHB2 := Lib.hid (below_grown YHA.out hg2 YO1.out (Nat.le_refl _)); have YO2 := Lib.hid hown2; clear hown2 hg2)
          | (refine step_cat (bytes := 8) (base := w6.heap.size) encI_len encI_one (Nat.succ_pos 0) rfl (.tmp 149) (.tmp 153) _ rfl Try.underlying29 info_intN rfl _ _ rfl YO2.out rfl (SlE.cut1 (T6.out.below YHB2.out) hk hlc2) YN2.out.1 YN2.out.2 YHB2.out.size ?_; intro v3 w8 hown3 hg3; have YHB3 := Lib.hid (below_grown YHB2.out hg3 YO2.out (Nat.le_refl _)); rw [List.nil_append, ← List.eraseIdx_eq_take_drop_succ] at hown3; obtain ⟨YA, Yc, rfl, -, -⟩ := hown3.slc encI_len YEL.out; have Y8 := Lib.hid (sl_of_own_at encI_len hown3 YEL.out); clear hown3 hg3))
      all_goals
        have X8 := Lib.hid (X6.out.below YHB3.out)
        have B8 := Lib.hid (below_trans B6.out YHB3.out)
        go_wp2_with fail
        all_goals
          refine (implSeatingValid_any XA YA n (j - 1) Xc (j - 1) Yc (xs.eraseIdx k) (ys.eraseIdx k) w8 X8.out Y8.out (by omega)).mono ?_
          intro e w9 hp
          obtain ⟨rfl, hb⟩ := hp.yes HBE.out
          clear hp
          have X9 := Lib.hid (X8.out.below hb)
          have Y9 := Lib.hid (Y8.out.below hb)
          have B9 := Lib.hid (below_trans B8.out hb)
          clear hb X8 Y8 B8
          go_wp2_with fail
          go_ret
          exact ⟨rfl, B9.out⟩
end Go.Proofs.Ytkknfhabfmpogaa
