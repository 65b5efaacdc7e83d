/- Walk of FnTollEach. -/
import Derived.Test.YtngbpdijempkpaaDrawT
import Derived.Test.YtngbpdijempkpaaTPlainG
import Derived.Test.YtngbpdijempkpaaLV
import Derived.Test.YtngbpdijempkpaaSameI
import Derived.Test.YtngbpdijempkpaaSumOf
import Derived.Test.YtngbpdijempkpaaGWalkB
set_option linter.unusedVariables false
namespace Go.Proofs.Ytngbpdijempkpaa
open Go.RowKit

set_option maxRecDepth 20000 in
set_option maxHeartbeats 6400000 in
theorem lawFnTollEach_walk (A0 : Option Addr) (len0 cap0 : Nat) (xs0 : List Int) (w : World) (h0 : SlE 1 encU w A0 len0 xs0) (hb0 : Bytes xs0) (hc0 : len0 ≤ cap0) :
    Calls Try.prog 9 #[.slice A0 len0 cap0] w (Only (.bool true) w) := by
  have H0 := Lib.hid h0
  have HB0 := Lib.hid hb0
  clear h0 hb0
  by_cases hbig : (len0 : Int) ≤ 1048576
  rotate_left
  · go_enter Try.func9, Try.ntmps9
    go_wp2_with fail
    go_ret
    exact ⟨rfl, Below.refl _ _⟩
  go_enter Try.func9, Try.ntmps9
  go_wp2_with fail
  refine (drawTollEach_any A0 len0 cap0 xs0 w H0.out HB0.out (by omega) hc0).mono ?_
  rintro e w1 ⟨v, xs, free, x, y, rfl, hl, ⟨f0, f1⟩, ⟨x0, x1⟩, ⟨y0, y1⟩, hown, hb1⟩
  obtain ⟨A, c, rfl, -, hlc⟩ := hown.slc enc3_len rfl
  generalize hlen : xs.length = len at *
  have HL := Lib.hid hlen
  have O1 := Lib.hid (sl_of_own_at enc3_len hown hlen)
  have B1 := Lib.hid hb1
  clear hown hb1 H0 HB0 hlen
  by_cases hok : TollOk xs free x y
  · have HOK := Lib.hid hok
    obtain ⟨⟨hG, ⟨x2, x3⟩, y2, y3⟩, f2, f3⟩ := hok
    have HG := Lib.hid hG
    have HWAY : Hid (WayOk xs x y) := HOK.out.1
    have HI := Lib.hid (way_idx (f := inW x y) hG HL.out)
    have hgo := fun i (hi : i ∈ idxIf (inW x y) xs) => gate_of hG hi
    have HT := Lib.hid (way_trust (f := inW x y) hG)
    have hal : ∀ i ∈ idxIf (inW x y) xs, 0 ≤ (gAt xs i).a ∧ 1 ≤ (gAt xs i).c ∧ (gAt xs i).c ≤ 99 := fun i hi => by
      obtain ⟨k, rfl, hk, e, h1, h2, h3, h4, h5, h6⟩ := gate_of hG hi
      omega
    have hpl : (idxIf (inW x y) xs).length ≤ 10 := Nat.le_trans (idxIf_len (inW x y) xs) (by rw [HL.out]; omega)
    have hlaw := fun t => each_law (g := gAt xs) (free := free) (ps := idxIf (inW x y) xs) f2 (fun i hi => ⟨(hal i hi).1, (hal i hi).2.1⟩) t
    have hsb := fun t ps' (hs : ps'.Sublist (idxIf (inW x y) xs)) => sumC_flt_le (g := gAt xs) t ps' (fun i hi => (hal i (hs.subset hi)).2)
    have HLAW := Lib.hid hlaw
    have HSB := Lib.hid hsb
    have hes := each_sum (g := gAt xs) (free := free) (ps := idxIf (inW x y) xs) HT.out
    have HES : Hid ((each (gAt xs) free (idxIf (inW x y) xs) 4).sum = LV xs free x y) := hes
    have hbd := lv_bd hG free x y
    have HEB : Hid (∀ z ∈ each (gAt xs) free (idxIf (inW x y) xs) 4, 0 ≤ z ∧ z ≤ 10000) := fun z hz => by
      obtain ⟨t, ht⟩ := List.getElem?_of_mem hz
      have htl := (List.getElem?_eq_some_iff.1 ht).1
      rw [each_len] at htl
      rw [each_at htl] at ht
      injection ht with ht
      have h1 := hlaw t
      have h2 := hsb t _ (List.Sublist.refl _)
      omega
    have HPS : Hid (WayOk xs x y → ∀ W A' len' cap', SlE 3 enc3 W A' len' xs → len' ≤ 1048576 → Calls Try.prog 22 #[.slice A' len' cap', .int .i64 x, .int .i64 y] W (RetOwn 1 encI 3 (idxIf (inW x y) xs) W)) :=
      fun hw W A' len' cap' h1 h2 => implGatesPassed_any A' len' cap' xs x y _ W h1 h2 (.inl ⟨hw, rfl⟩)
    have HIMP : Hid (∀ W, SlE 3 enc3 W A len xs → Calls Try.prog 36 #[.slice A len c, .int .i64 free, .int .i64 x, .int .i64 y] W (RetOwnB 1 encI 3 (each (gAt xs) free (idxIf (inW x y) xs) 4) true W)) :=
      fun W h => implTollEach_any A len c xs free x y _ true W h (by omega) (.inl ⟨rfl, HOK.out, rfl⟩)
    have HSPE : Hid (∀ W, SlE 3 enc3 W A len xs → Calls Try.prog 37 #[.slice A len c, .int .i64 free, .int .i64 x, .int .i64 y] W (RetOwnB 1 encI 3 (each (gAt xs) free (idxIf (inW x y) xs) 4) true W)) :=
      fun W h => specTollEach_any A len c xs free x y _ true W h (by omega) (.inl ⟨rfl, HOK.out, rfl⟩)
    have HLE : Hid (∀ W, SlE 3 enc3 W A len xs → Calls Try.prog 29 #[.slice A len c, .int .i64 free, .int .i64 x, .int .i64 y] W (Only (.int .i64 (LV xs free x y)) W)) :=
      fun W h => implTollLeast_any A len c xs free x y _ W h (by omega) (.inl ⟨HOK.out, rfl⟩)
    have HGB := Lib.hid (fun i (hi : i ∈ idxIf (inW x y) xs) => (hal i hi).2)
    clear hlaw hsb hes hgo hal hG
    generalize LV xs free x y = L0 at *
    have HEA := Lib.hid (fun (t : Nat) (ht : t < 4) => each_at (g := gAt xs) (free := free) (ps := idxIf (inW x y) xs) ht)
    have HEL := Lib.hid (each_len (g := gAt xs) (free := free) (idxIf (inW x y) xs) 4)
    generalize each (gAt xs) free (idxIf (inW x y) xs) 4 = es at *
    generalize idxIf (inW x y) xs = ps at *
    obtain ⟨l0, l1⟩ := hbd
    go_wp2_with fail
    refine (HIMP.out w1 O1.out).mono ?_
    rintro e w2 ⟨v2, rfl, hown2, hb2⟩
    obtain ⟨A2, c2, rfl, -, -⟩ := hown2.slc encI_len HEL.out
    have E2 := Lib.hid hown2
    have O2 := Lib.hid (O1.out.below hb2)
    have B2 := Lib.hid (below_trans B1.out hb2)
    clear hown2 hb2 O1 B1
    go_wp2_with fail
    refine (HSPE.out w2 O2.out).mono ?_
    rintro e w3 ⟨v3, rfl, hown3, hb3⟩
    obtain ⟨A3, c3, rfl, -, -⟩ := hown3.slc encI_len HEL.out
    have F3 := Lib.hid hown3
    have E3 := Lib.hid (E2.out.below hb3 (Nat.le_refl _))
    have O3 := Lib.hid (O2.out.below hb3)
    have B3 := Lib.hid (below_trans B2.out hb3)
    clear hown3 hb3 O2 B2 E2
    go_wp2_with fail
    refine (sameInts_yes A2 A3 4 c2 c3 es w3 (sl_of_own_at encI_len E3.out HEL.out) (sl_of_own_at encI_len F3.out HEL.out) (by omega)).mono ?_
    rintro e w4 ⟨rfl, hb4⟩
    have E4 := Lib.hid (E3.out.below hb4 (Nat.le_refl _))
    have O4 := Lib.hid (O3.out.below hb4)
    have B4 := Lib.hid (below_trans B3.out hb4)
    clear hb4 O3 B3 E3 F3
    go_wp2_with fail
    refine (HPS.out HWAY.out w4 A len c O4.out (by omega)).mono ?_
    rintro e w5 ⟨v5, rfl, hown5, hb5⟩
    generalize hpsl : ps.length = pl at *
    obtain ⟨A5, c5, rfl, -, -⟩ := hown5.slc encI_len hpsl
    have P5 := Lib.hid (sl_of_own_at encI_len hown5 hpsl)
    have E5 := Lib.hid (sl_of_own_at encI_len (E4.out.below hb5 (Nat.le_refl _)) HEL.out)
    have O5 := Lib.hid (O4.out.below hb5)
    have B5 := Lib.hid (below_trans B4.out hb5)
    have HPL := Lib.hid hpsl
    clear hb5 O4 B4 E4 hown5 hpsl
    go_wp2_with fail
    obtain ⟨W0, rfl⟩ : ∃ W0, W0 = w5 := ⟨_, rfl⟩
    go_loopw [12, 13, 14] (fun i _ _ wr => ∃ t : Nat, t ≤ 4 ∧ i = .int .i64 t ∧ Below W0.heap.size W0 wr) (fun i _ _ _ => 4 - (intOf i).toNat)
    case atStart => exact ⟨0, by omega, rfl, Below.refl _ _⟩
    case round =>
      obtain ⟨t, ht, rfl, hbr⟩ := hrel
      have HR := Lib.hid hbr
      obtain ⟨W1, rfl⟩ : ∃ W1, W1 = wr := ⟨_, rfl⟩
      clear hbr
      by_cases hlt : t < 4
      · go_wp2_with fail
        go_loopw [14, 13] (fun i s wr => ∃ k : Nat, k ≤ pl ∧ i = .int .i64 k ∧ s = .int .i64 (sumC (gAt xs) (flt (gAt xs) t (ps.take k))) ∧ Below W0.heap.size W0 wr) (fun i _ _ => pl - (intOf i).toNat)
        case atStart => exact ⟨0, by omega, rfl, rfl, HR.out⟩
        case round =>
          obtain ⟨k, hk, rfl, rfl, hbr⟩ := hrel
          have HR2 := Lib.hid hbr
          clear hbr
          have hsm := HSB.out t (ps.take k) (List.take_sublist _ _)
          have hln : (ps.take k).length ≤ 10 := Nat.le_trans (List.length_take_le _ _) (by omega)
          obtain ⟨s0, s1⟩ := hsm
          by_cases hlk : k < pl
          · obtain ⟨bp, op, q, rfl, hbp, hx, hd, p0⟩ := at1 P5.out HR2.out hlk
            obtain ⟨hq0, hq1⟩ := HI.out q (mem_at hx)
            obtain ⟨q, rfl⟩ : ∃ n : Nat, q = n := ⟨q.toNat, by omega⟩
            have hq1' : q < len := by omega
            obtain ⟨bg, og, gx, gy, gz, rfl, hbg, hx1, hd1, g0, g1, g2⟩ := at3 O5.out HR2.out hq1'
            have HQ := Lib.hid (gAt_at hx1)
            have HN := Lib.hid (sumC_flt_next (g := gAt xs) (t := (t : Int)) hx)
            have hgb := HGB.out q (mem_at hx)
            rw [HQ.out] at HN hgb
            obtain ⟨gb0, gb1⟩ := hgb
            clear hx hd hx1 hd1
            have hn := HN.out
            dsimp only at hn gb0 gb1
            generalize sumC (gAt xs) (flt (gAt xs) t (ps.take k)) = S at *
            clear hn
            by_cases he : gy = (t : Int)
            · have he' : (gy == (t : Int)) = true := by simpa using he
              have HE := Lib.hid he
              clear he
              go_wp2_with fail
              go_roundw
              case rel => exact ⟨k + 1, by omega, by go_num, by rw [HN.out, if_pos HE.out], HR2.out⟩
              case measure => simp [intOf]; omega
            · have he' : (gy == (t : Int)) = false := by simpa using he
              have HE := Lib.hid he
              clear he
              go_wp2_with fail
              go_roundw
              case rel => exact ⟨k + 1, by omega, by go_num, by rw [HN.out, if_neg HE.out, Int.add_zero], HR2.out⟩
              case measure => simp [intOf]; omega
          · have e : k = pl := by omega
            subst e
            have HTK := Lib.hid (show ps.take k = ps by rw [List.take_of_length_le (by rw [HPL.out]; omega)])
            obtain ⟨be, oe, z, rfl, hbe, hz, hdz, e0⟩ := at1 E5.out HR2.out hlt
            have hzz := HEA.out t hlt
            rw [hz] at hzz
            injection hzz with hzz
            obtain ⟨q0, q1, q2⟩ := HLAW.out t
            rw [← hzz] at q0 q1 q2
            have HQ2 := Lib.hid q2
            have HZZ := Lib.hid hzz
            rw [HTK.out] at s0 s1 ⊢
            clear hz hdz hzz q2 HTK
            generalize sumC (gAt xs) (flt (gAt xs) t ps) = S at *
            have c1 : ¬ S < z := by omega
            have c2 : (z == 0) = (S == 0) := by rw [Bool.eq_iff_iff]; simp only [beq_iff_eq]; exact HQ2.out
            by_cases hz0 : z = 0
            · have hS0 : S = 0 := HQ2.out.1 hz0
              subst hz0 hS0
              clear c2
              go_wp2_with fail
              go_roundw
              case rel => exact ⟨t + 1, by omega, by go_num, HR2.out⟩
              case measure => simp [intOf]; omega
            · have hS0 : ¬ S = 0 := fun h => hz0 (HQ2.out.2 h)
              have d1 : (z == 0) = false := by simpa using hz0
              have d2 : (S == 0) = false := by simpa using hS0
              clear c2 hz0 hS0
              go_wp2_with fail
              go_roundw
              case rel => exact ⟨t + 1, by omega, by go_num, HR2.out⟩
              case measure => simp [intOf]; omega
      · have e : t = 4 := by omega
        subst e
        have HE6 := Lib.hid (E5.out.below HR.out)
        go_wp2_with fail
        refine (sumOf_any A2 4 c2 es W1 HE6.out (by omega) HEB.out).mono ?_
        rintro e w6 ⟨rfl, rfl⟩
        rw [HES.out]
        go_wp2_with fail
        refine (HLE.out W1 (O5.out.below HR.out)).mono ?_
        rintro e w7 ⟨rfl, hb7⟩
        have B7 := Lib.hid (below_trans (below_trans B5.out HR.out) hb7)
        clear hb7
        go_wp2_with fail
        go_ret
        exact ⟨by simp, B7.out⟩
  · have HN := Lib.hid hok
    clear hok
    go_wp2_with fail
    refine (implTollEach_any A len c xs free x y [] false w1 O1.out (by omega) (.inr ⟨rfl, HN.out, rfl⟩)).mono ?_
    rintro e w2 ⟨v2, rfl, hown2, hb2⟩
    obtain ⟨A2, c2, rfl, -, hlc2⟩ := hown2.slc encI_len (n := 0) rfl
    have E2 := Lib.hid hown2
    have O2 := Lib.hid (O1.out.below hb2)
    have B2 := Lib.hid (below_trans B1.out hb2)
    clear hown2 hb2 O1 B1
    go_wp2_with fail
    refine (specTollEach_any A len c xs free x y [] false w2 O2.out (by omega) (.inr ⟨rfl, HN.out, rfl⟩)).mono ?_
    rintro e w3 ⟨v3, rfl, hown3, hb3⟩
    obtain ⟨A3, c3, rfl, -, hlc3⟩ := hown3.slc encI_len (n := 0) rfl
    have F3 := Lib.hid hown3
    have E3 := Lib.hid (E2.out.below hb3 (Nat.le_refl _))
    have B3 := Lib.hid (below_trans B2.out hb3)
    clear hown3 hb3 O2 E2 B2
    go_wp2_with fail
    refine (sameInts_yes A2 A3 0 c2 c3 [] w3 (sl_of_own_at encI_len E3.out rfl) (sl_of_own_at encI_len F3.out rfl) (by omega)).mono ?_
    rintro e w4 ⟨rfl, hb4⟩
    have E4 := Lib.hid (E3.out.below hb4 (Nat.le_refl _))
    have F4 := Lib.hid (F3.out.below hb4 (Nat.le_refl _))
    have B4 := Lib.hid (below_trans B3.out hb4)
    clear hb4 E3 F3 B3
    go_wp2_with fail
    refine (sameInts_yes A2 A3 0 c2 c3 [] w4 (sl_of_own_at encI_len E4.out rfl) (sl_of_own_at encI_len F4.out rfl) (by omega)).mono ?_
    rintro e w5 ⟨rfl, hb5⟩
    have B5 := Lib.hid (below_trans B4.out hb5)
    clear hb5 E4 F4 B4
    go_wp2_with fail
    go_ret
    exact ⟨rfl, B5.out⟩
end Go.Proofs.Ytngbpdijempkpaa
