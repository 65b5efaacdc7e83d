/- Contracts: TollValid of the program. -/
import Derived.Test.YtngbpdijempkpaaTWalkB
set_option linter.unusedVariables false
namespace Go.Proofs.Ytngbpdijempkpaa
open Go.RowKit

/-- pay at a gate whose cells are known. -/
theorem pay_at (base T : Nat) (xs : List T3) (free : Int) (c : Int → Int) (q y : Nat) (x z : Int) (w : World) (hq : gAt xs q = ⟨x, y, z⟩) (h : TkAt base w T c) (hy : y < 4) (ha : 0 ≤ x ∧ x ≤ 999) (hf : 0 ≤ free ∧ free ≤ 999) (hbase : base ≤ w.heap.size) :
    Calls Try.prog 56 #[.pointer (some ⟨T, 0, none⟩), .agg #[.int .i64 x, .int .i64 y, .int .i64 z], .int .i64 free] w fun e w' => e = .returned (.tuple #[]) ∧ TkAt base w' T (up (gAt xs) free c q) ∧ w.grownBy w' (some T) := by
  have := pay_any base T (gAt xs) free c q y z w h hy (by rw [hq]) (by rw [hq]; exact ha) hf hbase
  rw [hq] at this
  exact this

set_option maxRecDepth 20000 in
set_option maxHeartbeats 3200000 in
theorem implTollValid_any (A B : Option Addr) (len cap m c : Nat) (xs : List T3) (free f t : Int) (paid : List Int) (w : World) (h : SlE 3 enc3 w A len xs) (h' : SlE 1 encI w B m paid) (hn : len ≤ 1048576) (hm : m ≤ 1048576) :
    Calls Try.prog 21 #[.slice A len cap, .int .i64 free, .int .i64 f, .int .i64 t, .slice B m c] w (OnlyB (PayOk xs free f t paid) w) := by
  have H := Lib.hid h
  have H' := Lib.hid h'
  have HXL := Lib.hid h.len
  have HPL := Lib.hid h'.len
  clear h h'
  by_cases hW : TollOk xs free f t
  rotate_left
  · have HW := Lib.hid hW
    clear hW
    go_enter Try.func21, Try.ntmps21
    go_wp2_with fail
    refine (tollsValid_any A len cap xs free f t w H.out (by omega)).mono ?_
    intro e w2 hp
    obtain ⟨rfl, hb2⟩ := hp.no HW.out
    have HB2 := Lib.hid hb2
    clear hb2 hp
    go_wp2
    go_ret
    exact onlyB_false (fun h => HW.out h.1) HB2.out
  · have HW := Lib.hid hW
    have hf0 := hW.2.1
    have hf1 := hW.2.2
    have HA := Lib.hid (idxIf_asc (f := inW f t) hW.1.1)
    have HI := Lib.hid (way_idx (f := inW f t) hW.1.1 HXL.out)
    have hpl := Nat.le_trans (idxIf_len (inW f t) xs) (Nat.le_of_eq HXL.out)
    have HPY : Hid (PayOk xs free f t paid ↔ Pays (gAt xs) free (idxIf (inW f t) xs) paid) := ⟨fun h => h.2, fun h => ⟨HW.out, h⟩⟩
    clear hW
    go_enter Try.func21, Try.ntmps21
    go_wp2_with fail
    refine (tollsValid_any A len cap xs free f t w H.out (by omega)).mono ?_
    intro e w1 hp
    obtain ⟨rfl, hb1⟩ := hp.yes HW.out
    have HB1 := Lib.hid hb1
    clear hb1 hp
    go_wp2_with fail
    refine (newTickets_any w1).mono ?_
    rintro e w2 ⟨rfl, ht2, hb2, hz2⟩
    have HB2 := Lib.hid (below_trans HB1.out hb2)
    have hT0 := HB1.out.size
    generalize w1.heap.size = T at *
    have HT2 := Lib.hid ht2
    clear ht2 hb2
    go_wp2_with fail
    refine (implGatesPassed_any A len cap xs f t _ w2 (H.out.below HB2.out) (by omega) (.inl ⟨HW.out.1, rfl⟩)).mono ?_
    generalize idxIf (inW f t) xs = ps at *
    rintro e w3 ⟨v, rfl, hown, hb3⟩
    obtain ⟨A1, c1, rfl, hs1⟩ := hown.sl encI_len
    have HO3 := Lib.hid (hown.base_le (base' := T + 1) hz2)
    have HB3 := Lib.hid (below_trans HB2.out hb3)
    have HT3 := Lib.hid (HT2.out.below hb3 (Nat.le_refl _))
    clear hown hb3 hs1
    generalize hpq : ps.length = pl at *
    have HPQ := Lib.hid hpq
    clear hpq
    have HS0 := Lib.hid (show tk (gAt xs) free (paid.take 0) = fun _ => -1 by funext s; simp [tk])
    go_wp2_with fail
    go_loopw [27, 12, 14] (fun j s _ wr => ∃ k n : Nat, k ≤ pl ∧ n ≤ m ∧ j = .int .i64 k ∧ s = .int .i64 n ∧ Met (gAt xs) free ps paid k n ∧ TkAt T wr T (tk (gAt xs) free (paid.take n)) ∧ OwnE 1 encI 3 (T + 1) wr (.slice A1 pl c1) ps ∧ Below w.heap.size w wr) (fun j _ _ _ => pl - (intOf j).toNat)
    case atStart => exact ⟨0, 0, by omega, by omega, rfl, rfl, met_start _ _, by rw [HS0.out]; exact HT3.out, HO3.out, HB3.out⟩
    case round =>
      obtain ⟨k, n, hk, hnm, rfl, rfl, hmet, htk, hown, hbr⟩ := hrel
      have HM := Lib.hid hmet
      have HT := Lib.hid htk
      have HO := Lib.hid hown
      have HR := Lib.hid hbr
      have hTl := htk.lt.2
      clear hmet htk hown hbr
      by_cases hlt : k < pl
      · obtain ⟨b, off, q, rfl, hbl, hx, hd, h0⟩ := at1 (sl_of_own_at encI_len HO.out HPQ.out) (Below.refl _ wr) hlt
        obtain ⟨hq0, hq1⟩ := HI.out q (mem_at hx)
        obtain ⟨q, rfl⟩ : ∃ n : Nat, q = n := ⟨q.toNat, by omega⟩
        have hq1' : q < len := by omega
        obtain ⟨b1, off1, x, y, z, rfl, hbl1, hx1, hd1, g0, g1, g2⟩ := at3 H.out HR.out hq1'
        have hgq := HW.out.1.1.2 q _ hx1
        unfold GOk at hgq
        simp only at hgq
        obtain ⟨hxa, hxb⟩ : 0 ≤ x ∧ x ≤ 999 := ⟨by omega, by omega⟩
        obtain ⟨y, rfl⟩ : ∃ n : Nat, y = n := ⟨y.toNat, by omega⟩
        have hy4 : y < 4 := by omega
        have HQ := Lib.hid (gAt_at hx1)
        have HX := Lib.hid hx
        clear hx hd hx1 hd1 hgq
        by_cases hmt : n < m ∧ paid[n]? = some (q : Int)
        · obtain ⟨hn1, hpn⟩ := hmt
          obtain ⟨b2, off2, p, rfl, hbl2, hp2, hd2, e0⟩ := at1 H'.out HR.out hn1
          rw [hpn] at hp2
          injection hp2 with hp2
          subst hp2
          have HPN := Lib.hid hpn
          have HTS := Lib.hid (tk_snoc (g := gAt xs) (free := free) (paid.take n) (q : Int))
          have HPAY := Lib.hid (fun W hW hb => pay_at T T xs free (tk (gAt xs) free (paid.take n)) q y x z W HQ.out hW hy4 ⟨hxa, hxb⟩ ⟨hf0, hf1⟩ hb)
          clear hpn hd2
          go_wp2_with fail
          refine (HPAY.out wr HT.out (Nat.le_of_lt hTl)).mono ?_
          rintro e w4 ⟨rfl, ht4, hg4⟩
          have HT4 := Lib.hid ht4
          have HG4 := Lib.hid hg4
          clear ht4 hg4
          go_wp2
          go_roundw
          case rel => exact ⟨k + 1, n + 1, by omega, by omega, by go_num, by go_num, met_pay HM.out HX.out HPN.out, by rw [take_next HPN.out, HTS.out]; exact HT4.out, HO.out.apart HG4.out (.inr fun e => by have := (HO.out.lt T e).1; omega), HR.out.grown HG4.out HR.out.size (fun j hj => by injection hj with hj; omega)⟩
          case measure => simp [intOf]; omega
        · have HNM : Hid (paid[n]? ≠ some (q : Int)) := fun hh => hmt ⟨by have := (List.getElem?_eq_some_iff.1 hh).1; rw [HPL.out] at this; exact this, hh⟩
          have hfr := met_tk HA.out hf0 HM.out HX.out
          rw [HQ.out] at hfr
          have HFR := Lib.hid hfr
          have HFC := Lib.hid (fun W hW => frees_any T T (tk (gAt xs) free (paid.take n)) x z y W hW hy4)
          clear hfr hmt
          by_cases hnl : n < m
          case' pos =>
            obtain ⟨b2, off2, p, rfl, hbl2, hp2, hd2, e0⟩ := at1 H'.out HR.out hnl
            have hpq : (p == (q : Int)) = false := by
              have : ¬ p = (q : Int) := fun e => HNM.out (by rw [hp2, e])
              simpa using this
            clear hp2 hd2
          all_goals
            by_cases hF : Freed (gAt xs) free (paid.take n) q
            · have HFY := Lib.hid (HFR.out.2 hF)
              have HF := Lib.hid hF
              clear hF
              go_wp2_with fail
              refine (HFC.out wr HT.out).mono ?_
              intro e w4 hp
              obtain ⟨rfl, hb4⟩ := hp.yes HFY.out
              have HB4 := Lib.hid hb4
              clear hp hb4
              go_wp2
              go_roundw
              case rel => exact ⟨k + 1, n, by omega, by omega, by go_num, rfl, met_free HM.out HX.out HNM.out HF.out, HT.out.below HB4.out (Nat.le_refl _), HO.out.below HB4.out (Nat.le_refl _), below_trans HR.out HB4.out⟩
              case measure => simp [intOf]; omega
            · have HFY := Lib.hid (fun h => hF (HFR.out.1 h))
              have HF := Lib.hid hF
              clear hF
              go_wp2_with fail
              refine (HFC.out wr HT.out).mono ?_
              intro e w4 hp
              obtain ⟨rfl, hb4⟩ := hp.no HFY.out
              have HB4 := Lib.hid hb4
              clear hp hb4
              go_wp2
              go_ret
              exact onlyB_false (fun h => met_stuck HA.out HM.out HX.out HNM.out HF.out (HPY.out.1 h)) (below_trans HR.out HB4.out)
      · have e : k = ps.length := by rw [HPQ.out]; omega
        have HME := Lib.hid (met_end (e ▸ HM.out))
        clear e
        go_wp2
        go_ret
        exact ⟨_, rfl, by rw [HPY.out, HME.out, HPL.out]; simp <;> omega, HR.out⟩
end Go.Proofs.Ytngbpdijempkpaa
