/- Walk of FnTollMust. -/
import Derived.Test.YtngbpdijempkpaaDrawT
import Derived.Test.YtngbpdijempkpaaTPlainG
import Derived.Test.YtngbpdijempkpaaLV
import Derived.Test.YtngbpdijempkpaaSameI
import Derived.Test.YtngbpdijempkpaaTWalkC
import Derived.Test.YtngbpdijempkpaaTWalkD
import Derived.Test.YtngbpdijempkpaaTWalkI
import Derived.Test.YtngbpdijempkpaaGWalkD
set_option linter.unusedVariables false
namespace Go.Proofs.Ytngbpdijempkpaa
open Go.RowKit

set_option maxRecDepth 20000 in
set_option maxHeartbeats 6400000 in
theorem lawFnTollMust_walk (A0 : Option Addr) (len0 cap0 : Nat) (xs0 : List Int) (w : World) (h0 : SlE 1 encU w A0 len0 xs0) (hb0 : Bytes xs0) (hc0 : len0 ≤ cap0) :
    Calls Try.prog 4 #[.slice A0 len0 cap0] w (Only (.bool true) w) := by
  have H0 := Lib.hid h0
  have HB0 := Lib.hid hb0
  clear h0 hb0
  by_cases hbig : (len0 : Int) ≤ 1048576
  rotate_left
  · go_enter Try.func4, Try.ntmps4
    go_wp2_with fail
    go_ret
    exact ⟨rfl, Below.refl _ _⟩
  go_enter Try.func4, Try.ntmps4
  go_wp2_with fail
  refine (drawTollMust_any A0 len0 cap0 xs0 w H0.out HB0.out (by omega) hc0).mono ?_
  rintro e w1 ⟨v, xs, free, x, y, rfl, hl, ⟨f0, f1⟩, ⟨x0, x1⟩, ⟨y0, y1⟩, hown, hb1⟩
  obtain ⟨A, c, rfl, -, hlc⟩ := hown.slc enc3_len rfl
  generalize hlen : xs.length = len at *
  have HL := Lib.hid hlen
  have O1 := Lib.hid (sl_of_own_at enc3_len hown hlen)
  have B1 := Lib.hid hb1
  clear hown hb1 H0 HB0 hlen
  by_cases hok : TollOk xs free x y
  · have HOK := Lib.hid hok
    obtain ⟨⟨hG, ⟨x2, x3⟩, y2, y3⟩, f2, f3⟩ := hok
    have hps : Asc (gAt xs) (idxIf (inW x y) xs) := idxIf_asc hG
    have hpl : (idxIf (inW x y) xs).length ≤ 10 := Nat.le_trans (idxIf_len (inW x y) xs) (by rw [HL.out]; omega)
    have hcs : ∀ i ∈ idxIf (inW x y) xs, 1 ≤ (gAt xs i).c := fun i hi => by
      obtain ⟨k, rfl, hk, e, h1, h2, h3, h4, h5, h6⟩ := gate_of hG hi
      omega
    have hyl : (must (gAt xs) free (idxIf (inW x y) xs)).length ≤ 10 := Nat.le_trans (must_pays f2 hps).1.length_le hpl
    have HLESS : Hid (∀ j < (must (gAt xs) free (idxIf (inW x y) xs)).length, ¬ PayOk xs free x y ((must (gAt xs) free (idxIf (inW x y) xs)).eraseIdx j)) := fun j hj hp => must_less f2 hps hj hp.2
    have HPAY : Hid (PayOk xs free x y (must (gAt xs) free (idxIf (inW x y) xs))) := ⟨HOK.out, must_pays f2 hps⟩
    have HNONE : Hid (MustIs xs 0 x y (idxIf (inW x y) xs) true) := .inl ⟨rfl, ⟨HOK.out.1, by omega, by omega⟩, (must_none hps).symm⟩
    have HPS : Hid (∀ W, SlE 3 enc3 W A len xs → Calls Try.prog 22 #[.slice A len c, .int .i64 x, .int .i64 y] W (RetOwn 1 encI 3 (idxIf (inW x y) xs) W)) :=
      fun W h1 => implGatesPassed_any A len c xs x y _ W h1 (by omega) (.inl ⟨HOK.out.1, rfl⟩)
    have HIS : Hid (MustIs xs free x y (must (gAt xs) free (idxIf (inW x y) xs)) true) := (.inl ⟨rfl, HOK.out, rfl⟩)
    clear hG hps hcs
    generalize must (gAt xs) free (idxIf (inW x y) xs) = ys at *
    generalize idxIf (inW x y) xs = ps at *
    generalize hyl' : ys.length = ol at *
    generalize hpl' : ps.length = pl at *
    have HYL := Lib.hid hyl'
    have HPL := Lib.hid hpl'
    clear hyl' hpl'
    go_wp2_with fail
    refine (implTollMust_any A len c xs free x y ys true w1 O1.out (by omega) HIS.out).mono ?_
    rintro e w2 ⟨v2, rfl, hown2, hb2⟩
    obtain ⟨A2, c2, rfl, -, hlc2⟩ := hown2.slc encI_len HYL.out
    have E2 := Lib.hid (sl_of_own_at encI_len hown2 HYL.out)
    have O2 := Lib.hid (O1.out.below hb2)
    have B2 := Lib.hid (below_trans B1.out hb2)
    clear hown2 hb2 O1 B1
    go_wp2_with fail
    refine (specTollMust_any A len c xs free x y ys true w2 O2.out (by omega) HIS.out).mono ?_
    rintro e w3 ⟨v3, rfl, hown3, hb3⟩
    obtain ⟨A3, c3, rfl, -, -⟩ := hown3.slc encI_len HYL.out
    have F3 := Lib.hid (sl_of_own_at encI_len hown3 HYL.out)
    have E3 := Lib.hid (E2.out.below hb3)
    have O3 := Lib.hid (O2.out.below hb3)
    have B3 := Lib.hid (below_trans B2.out hb3)
    clear hown3 hb3 O2 B2 E2
    go_wp2_with fail
    refine (sameInts_yes A2 A3 ol c2 c3 ys w3 E3.out F3.out (by omega)).mono ?_
    rintro e w4 ⟨rfl, hb4⟩
    have E4 := Lib.hid (E3.out.below hb4)
    have O4 := Lib.hid (O3.out.below hb4)
    have B4 := Lib.hid (below_trans B3.out hb4)
    clear hb4 O3 B3 E3 F3
    go_wp2_with fail
    refine (implTollMust_any A len c xs 0 x y ps true w4 O4.out (by omega) HNONE.out).mono ?_
    rintro e w5 ⟨v5, rfl, hown5, hb5⟩
    obtain ⟨A5, c5, rfl, -, hlc5⟩ := hown5.slc encI_len HPL.out
    have P5 := Lib.hid (sl_of_own_at encI_len hown5 HPL.out)
    have E5 := Lib.hid (E4.out.below hb5)
    have O5 := Lib.hid (O4.out.below hb5)
    have B5 := Lib.hid (below_trans B4.out hb5)
    clear hown5 hb5 O4 B4 E4
    go_wp2_with fail
    obtain ⟨W0, rfl⟩ : ∃ W0, W0 = w5 := ⟨_, rfl⟩
    go_loopw [13, 14] (fun i _ wr => ∃ k : Nat, k ≤ ol ∧ i = .int .i64 k ∧ Below W0.heap.size W0 wr) (fun i _ _ => ol - (intOf i).toNat)
    case atStart => exact ⟨0, by omega, rfl, Below.refl _ _⟩
    case round =>
      obtain ⟨k, hk, rfl, hbr⟩ := hrel
      have HR := Lib.hid hbr
      obtain ⟨W1, rfl⟩ : ∃ W1, W1 = wr := ⟨_, rfl⟩
      clear hbr
      by_cases hlt : k < ol
      · have k2 : (k : Int) ≤ (c2 : Int) := by omega
        have k5 : (k : Int) + 1 ≤ (c2 : Int) := by omega
        have k6 : (ol : Int) ≤ (c2 : Int) := by omega
        have HE1 := Lib.hid (E5.out.below HR.out)
        have HO1 := Lib.hid (O5.out.below HR.out)
        have k1 : (0 : Int) ≤ (k : Int) := by omega
        have k3 : (0 : Int) ≤ (k : Int) + 1 := by omega
        have k4 : (k : Int) + 1 ≤ (ol : Int) := by omega
        have k7 : IntKind.i64.wrap ((k : Int) + 1) = (k : Int) + 1 := IntWalk.i64_in _ (by omega)
        have k8 : ((k : Int) + 1).toNat = k + 1 := by omega
        have Oa := Lib.hid (OwnE.drew (own_new (enc := encI) (k := 1) W1 3 W1.heap.size (Nat.le_refl _) encI_len [] #[] rfl (by simp) rfl))
        have n1 : (([] : List Int).length + k) * 8 ≤ 140737488355328 := by simp; omega
        have n2 : ([] : List Int).length + k ≤ maxLen := by simp [maxLen]; omega
        have n3 : W1.heap.size ≤ (W1.alloc (.cells #[] 3)).drew.heap.size := by simp
        have N := Lib.hid (And.intro n1 (And.intro n2 n3))
        have hlY := HYL.out
        have m1 : (([] ++ ys.take k).length + (ol - (k + 1))) * 8 ≤ 140737488355328 := by simp; omega
        have m2 : ([] ++ ys.take k).length + (ol - (k + 1)) ≤ maxLen := by simp [maxLen]; omega
        have N2 := Lib.hid (And.intro m1 m2)
        have HLS := Lib.hid (HLESS.out k hlt)
        have HEL := Lib.hid (show (ys.eraseIdx k).length = ol - 1 by rw [List.length_eraseIdx, if_pos (by omega), hlY])
        clear n1 n2 n3 m1 m2 hlY
        have HA1 := Lib.hid (below_drew (below_alloc (Below.refl W1.heap.size W1) (.cells #[] 3)))
        go_wp2_with fail
        go_region_held3 (fun w' => SlE 1 encI w' A2 ol ys ∧ Below W1.heap.size W1 w')
          (first | exact ⟨HE1.out.drew, (Below.refl _ _).drew⟩ | exact ⟨HE1.out.below HA1.out, HA1.out⟩ | (have := HB2.out; exact ⟨HE1.out.below this, this⟩) | (have := HB3.out; exact ⟨HE1.out.below this, this⟩) | fail)
          (first
            | (refine step_cat (bytes := 8) (base := W1.heap.size) encI_len encI_one (Nat.succ_pos 0) rfl (.tmp 75) (.tmp 78) _ rfl Try.underlying35 info_int rfl _ [] rfl Oa.out rfl (SlE.take (HE1.out.below HA1.out) (Nat.le_of_lt hlt)) N.out.1 N.out.2.1 N.out.2.2 ?_; intro v2 w2 hown2 hg2; have HB2 := Lib.hid (below_grown HA1.out hg2 Oa.out (Nat.le_refl _)); have Ob := Lib.hid hown2; clear hown2 hg2)
            | (refine step_cat (bytes := 8) (base := W1.heap.size) encI_len encI_one (Nat.succ_pos 0) rfl (.tmp 79) (.tmp 83) _ rfl Try.underlying35 info_int rfl _ _ rfl Ob.out rfl (SlE.cut1 (HE1.out.below HB2.out) hlt hlc2) N2.out.1 N2.out.2 HB2.out.size ?_; intro v3 w3 hown3 hg3; have HB3 := Lib.hid (below_grown HB2.out hg3 Ob.out (Nat.le_refl _)); have Oc := Lib.hid hown3; clear hown3 hg3)
            | fail)
        all_goals
          have HO3 := HO1.out.below HB3.out
          have HY3 : OwnE 1 encI 3 W1.heap.size w3 v3 (ys.eraseIdx k) := by rw [List.eraseIdx_eq_take_drop_succ]; exact Oc.out
          have HR3 := below_trans HR.out HB3.out
          obtain ⟨Al, cl, rfl, hsl, -⟩ := HY3.slc encI_len HEL.out
          have HS3 := Lib.hid hsl
          have HO3 := Lib.hid HO3
          have HR3 := Lib.hid HR3
          clear hsl HY3 Oa Ob Oc N N2 HA1 HB2 HB3 k7 k8
          generalize (if c2 = k + 1 then A2 else Option.map (fun x : Addr => (⟨x.block, x.off + (k + 1), none⟩ : Addr)) A2) = A9
          go_wp2_with fail
          all_goals
            refine (implTollValid_any A Al len c (ol - 1) cl xs free x y (ys.eraseIdx k) w3 HO3.out HS3.out (by omega) (by omega)).mono ?_
            intro e w4 hp
            obtain ⟨rfl, hb4⟩ := hp.no HLS.out
            have HR4 := Lib.hid (below_trans HR3.out hb4)
            clear hb4 hp
            go_wp2_with fail
            go_roundw
            case rel => exact ⟨k + 1, by omega, by go_num, HR4.out⟩
            case measure => simp [intOf]; omega
      · have e : k = ol := by omega
        subst e
        have HE1 := Lib.hid (E5.out.below HR.out)
        have HO1 := Lib.hid (O5.out.below HR.out)
        go_wp2_with fail
        refine (implTollValid_any A A2 len c k c2 xs free x y ys W1 HO1.out HE1.out (by omega) (by omega)).mono ?_
        intro e w6 hp
        obtain ⟨rfl, hb6⟩ := hp.yes HPAY.out
        have HP6 := Lib.hid ((P5.out.below HR.out).below hb6)
        have HO6 := Lib.hid (HO1.out.below hb6)
        have B6 := Lib.hid (below_trans (below_trans B5.out HR.out) hb6)
        clear hb6 hp
        go_wp2_with fail
        refine (HPS.out w6 HO6.out).mono ?_
        rintro e w7 ⟨v7, rfl, hown7, hb7⟩
        obtain ⟨A7, c7, rfl, -, -⟩ := hown7.slc encI_len HPL.out
        have Q7 := Lib.hid (sl_of_own_at encI_len hown7 HPL.out)
        have P7 := Lib.hid (HP6.out.below hb7)
        have B7 := Lib.hid (below_trans B6.out hb7)
        clear hb7 hown7
        go_wp2_with fail
        refine (sameInts_yes A5 A7 pl c5 c7 ps w7 P7.out Q7.out (by omega)).mono ?_
        rintro e w8 ⟨rfl, hb8⟩
        have B8 := Lib.hid (below_trans B7.out hb8)
        clear hb8
        go_wp2_with fail
        go_ret
        exact ⟨rfl, B8.out⟩
  · have HN := Lib.hid hok
    clear hok
    have HIS : Hid (MustIs xs free x y [] false) := (.inr ⟨rfl, HN.out, rfl⟩)
    go_wp2_with fail
    refine (implTollMust_any A len c xs free x y [] false w1 O1.out (by omega) HIS.out).mono ?_
    rintro e w2 ⟨v2, rfl, hown2, hb2⟩
    obtain ⟨A2, c2, rfl, -, hlc2⟩ := hown2.slc encI_len (n := 0) rfl
    have E2 := Lib.hid hown2
    have O2 := Lib.hid (O1.out.below hb2)
    have B2 := Lib.hid (below_trans B1.out hb2)
    clear hown2 hb2 O1 B1
    go_wp2_with fail
    refine (specTollMust_any A len c xs free x y [] false w2 O2.out (by omega) HIS.out).mono ?_
    rintro e w3 ⟨v3, rfl, hown3, hb3⟩
    obtain ⟨A3, c3, rfl, -, hlc3⟩ := hown3.slc encI_len (n := 0) rfl
    have F3 := Lib.hid hown3
    have E3 := Lib.hid (E2.out.below hb3 (Nat.le_refl _))
    have B3 := Lib.hid (below_trans B2.out hb3)
    clear hown3 hb3 O2 E2 B2
    go_wp2_with fail
    refine (sameInts_yes A2 A3 0 c2 c3 [] w3 (sl_of_own_at encI_len E3.out rfl) (sl_of_own_at encI_len F3.out rfl) (by omega)).mono ?_
    rintro e w4 ⟨rfl, hb4⟩
    have E4 := Lib.hid (E3.out.below hb4 (Nat.le_refl _))
    have F4 := Lib.hid (F3.out.below hb4 (Nat.le_refl _))
    have B4 := Lib.hid (below_trans B3.out hb4)
    clear hb4 E3 F3 B3
    go_wp2_with fail
    refine (sameInts_yes A2 A3 0 c2 c3 [] w4 (sl_of_own_at encI_len E4.out rfl) (sl_of_own_at encI_len F4.out rfl) (by omega)).mono ?_
    rintro e w5 ⟨rfl, hb5⟩
    have B5 := Lib.hid (below_trans B4.out hb5)
    clear hb5 E4 F4 B4
    go_wp2_with fail
    go_ret
    exact ⟨rfl, B5.out⟩
end Go.Proofs.Ytngbpdijempkpaa
