/- Contracts: cheapestOf. -/
import Derived.Test.YtngbpdijempkpaaTWalkE
import Derived.Test.YtngbpdijempkpaaGTrustI
set_option linter.unusedVariables false
namespace Go.Proofs.Ytngbpdijempkpaa
open Go.RowKit

theorem flt_next {g : Int → T3} {t : Int} {ps : List Int} {k : Nat} {q : Int} (h : ps[k]? = some q) : flt g t (ps.take (k + 1)) = flt g t (ps.take k) ++ if (g q).b = t then [q] else [] := by
  rw [take_next h]
  simp only [flt, List.filter_append]
  congr 1
  by_cases e : (g q).b = t <;> simp [e]
theorem flt_yes {g : Int → T3} {t : Int} {ps : List Int} {k : Nat} {q : Int} (h : ps[k]? = some q) (e : (g q).b = t) : flt g t (ps.take (k + 1)) = flt g t (ps.take k) ++ [q] := by rw [flt_next h, if_pos e]
theorem flt_no {g : Int → T3} {t : Int} {ps : List Int} {k : Nat} {q : Int} (h : ps[k]? = some q) (e : ¬ (g q).b = t) : flt g t (ps.take (k + 1)) = flt g t (ps.take k) := by rw [flt_next h, if_neg e, List.append_nil]
theorem flt_len {g : Int → T3} {t : Int} (ps : List Int) : (flt g t ps).length ≤ ps.length := List.length_filter_le _ _

set_option maxRecDepth 100000 in
set_option maxHeartbeats 3200000 in
theorem cheapestOf_any (A : Option Addr) (len cap : Nat) (xs : List T3) (free f to t : Int) (w : World) (h : SlE 3 enc3 w A len xs) (hn : len ≤ 1048576) (hW : TollOk xs free f to) (ht : 0 ≤ t ∧ t < 4) :
    Calls Try.prog 67 #[.slice A len cap, .int .i64 free, .int .i64 f, .int .i64 to, .int .i64 t] w (RetOwn 1 encI 3 (path (gAt xs) free (flt (gAt xs) t (idxIf (inW f to) xs))) w) := by
  have H := Lib.hid h
  have HXL := Lib.hid h.len
  have HW := Lib.hid hW
  have HI := Lib.hid (way_idx (f := inW f to) hW.1.1 h.len)
  have hpl := Nat.le_trans (idxIf_len (inW f to) xs) (Nat.le_of_eq h.len)
  clear h hW
  go_enter Try.func67, Try.ntmps67
  go_wp2_with fail
  refine (trustTests_any _).mono ?_
  rintro e w1 ⟨b, D, rfl, hown, hT, hbb, hb1⟩
  have HB1 := Lib.hid (below_trans (below_alloc (Below.refl _ w) _) hb1)
  have HO1 := Lib.hid (OwnE.below (own_new (enc := encI) (k := 1) w 3 w.heap.size (Nat.le_refl _) encI_len [] #[] rfl (by simp) rfl) hb1 (Nat.le_refl _))
  have HM := Lib.hid hown
  have HT := Lib.hid hT
  have hbw : w.heap.size < b := by simp at hbb; omega
  clear hown hT hb1 hbb
  go_wp2_with (at_lookup; refine wpList_test_plain rfl _ _ rfl b D rfl HM.out HT.out t rfl ht ?_; intro g hbg hg hc; have HC := Lib.hid hc; clear hc)
  refine (implGatesPassed_any A len cap xs f to _ w1 (H.out.below HB1.out) (by omega) (.inl ⟨HW.out.1, rfl⟩)).mono ?_
  generalize idxIf (inW f to) xs = ps at *
  rintro e w2 ⟨v, rfl, hown, hb2⟩
  obtain ⟨A1, c1, rfl, hs1⟩ := hown.sl encI_len
  have HP2 := Lib.hid (hown.base_le (base' := g + 1) hg)
  have HB2 := Lib.hid (below_trans HB1.out hb2)
  have HO2 := Lib.hid (HO1.out.below hb2 (Nat.le_refl _))
  have HC2 : Hid (CellIs w2 g t) := (hb2.cell (p := ⟨g, 0, none⟩) hg).trans HC.out
  have hg2 := Nat.lt_of_lt_of_le hg hb2.size
  clear hown hb2 hs1
  generalize hpq : ps.length = pl at *
  have HPQ := Lib.hid hpq
  clear hpq
  have HAP : Hid (Apart (.slice (some ⟨w.heap.size, 0, none⟩) 0 0) g) := fun e => by injection e with e; have e : w.heap.size = g := e; omega
  have HSP := Lib.hid (sep_start (n := 0) (c := 0) (fun j hj => by have := (HP2.out.lt j hj).1; omega : ∀ j, (Value.slice A1 pl c1).ownBlock = some j → w.heap.size < j))
  go_wp2_with fail
  go_loopw [24, 11, 14] (fun i s _ wr => ∃ k : Nat, k ≤ pl ∧ i = .int .i64 k ∧ OwnE 1 encI 3 w.heap.size wr s (flt (gAt xs) t (ps.take k)) ∧ Apart s g ∧ g < wr.heap.size ∧ CellIs wr g t ∧ OwnE 1 encI 3 (g + 1) wr (.slice A1 pl c1) ps ∧ Sep s (.slice A1 pl c1) ∧ Below w.heap.size w wr) (fun i _ _ _ => pl - (intOf i).toNat)
  case atStart => exact ⟨0, by omega, rfl, HO2.out, HAP.out, hg2, HC2.out, HP2.out, HSP.out, HB2.out⟩
  case round =>
    obtain ⟨k, hk, rfl, hown, hap, hgl, hce, hpas, hsep, hbr⟩ := hrel
    have HO := Lib.hid hown
    have HR := Lib.hid hbr
    have HAP := Lib.hid hap
    have HCE := Lib.hid hce
    have HP := Lib.hid hpas
    have HS := Lib.hid hsep
    have hsz := hbr.size
    clear hown hbr hap hce hpas hsep
    have hlen : (flt (gAt xs) t (ps.take k)).length ≤ k := Nat.le_trans (flt_len _) (List.length_take_le _ _)
    by_cases hlt : k < pl
    · obtain ⟨bp, op, q, rfl, hbp, hx, hd, h0⟩ := at1 (sl_of_own_at encI_len HP.out HPQ.out) (Below.refl _ wr) hlt
      obtain ⟨hq0, hq1⟩ := HI.out q (mem_at hx)
      obtain ⟨q, rfl⟩ : ∃ n : Nat, q = n := ⟨q.toNat, by omega⟩
      have hq1' : q < len := by omega
      obtain ⟨b1, off1, x, y, z, rfl, hbl1, hx1, hd1, g0, g1, g2⟩ := at3 H.out HR.out hq1'
      have hgy : (gAt xs q).b = y := by rw [gAt_at hx1]
      have HCC := Lib.hid (test_any x y z t g wr HCE.out hgl)
      by_cases hin : y = t
      · have HX := Lib.hid (flt_yes (g := gAt xs) (t := t) hx (by rw [hgy]; exact hin))
        have HIN := Lib.hid hin
        clear hin hx hd hx1 hd1 hgy
        go_wp2_with fail
        refine HCC.out.mono ?_
        intro e w3 hp
        obtain ⟨rfl, hb3⟩ := hp.yes HIN.out
        have HR3 := Lib.hid (below_trans HR.out hb3)
        have HO3 := Lib.hid (HO.out.below hb3 (Nat.le_refl _))
        have HP3 := Lib.hid (HP.out.below hb3 (Nat.le_refl _))
        have hsz3 := HR3.out.size
        have hsz4 := hb3.size
        have HCE3 : Hid (CellIs w3 g t) := (hb3.cell (p := ⟨g, 0, none⟩) hgl).trans HCE.out
        clear hp hb3
        go_wp2_with (at_builtin; refine wpList_push_at 1 8 3 encI encI_len encI_one (by omega) (q : Int) _ _ rfl rfl _ _ _ rfl Try.underlying35 info_int rfl w.heap.size _ _ rfl rfl rfl HO3.out (by omega) (by unfold maxLen; omega) hsz3 ?_; intro v' w' hown' hg' hl'; have HO' := Lib.hid hown'; have HB' := Lib.hid (below_grown HR3.out hg' HO3.out (Nat.le_refl _)); have HG' := Lib.hid hg'; have HL' := Lib.hid hl'; clear hown' hg' hl')
        have hsz5 := HG'.out.size
        go_roundw
        case rel => exact ⟨k + 1, by omega, by go_num, by rw [HX.out]; exact HO'.out, away_next HAP.out HL'.out (by omega), by omega, (grown_cell HG'.out (by omega) HAP.out).trans HCE3.out, HP3.out.apart HG'.out HS.out, sep_next HS.out HL'.out (fun j hj => by have := (HP3.out.lt j hj).2; omega), HB'.out⟩
        case measure => simp [intOf]; omega
      · have HX := Lib.hid (flt_no (g := gAt xs) (t := t) hx (by rw [hgy]; exact hin))
        have HIN := Lib.hid hin
        clear hin hx hd hx1 hd1 hgy
        go_wp2_with fail
        refine HCC.out.mono ?_
        intro e w3 hp
        obtain ⟨rfl, hb3⟩ := hp.no HIN.out
        have HR3 := Lib.hid (below_trans HR.out hb3)
        have HO3 := Lib.hid (HO.out.below hb3 (Nat.le_refl _))
        have HP3 := Lib.hid (HP.out.below hb3 (Nat.le_refl _))
        have hsz4 := hb3.size
        have HCE3 : Hid (CellIs w3 g t) := (hb3.cell (p := ⟨g, 0, none⟩) hgl).trans HCE.out
        clear hp hb3
        go_wp2_with fail
        go_roundw
        case rel => exact ⟨k + 1, by omega, by go_num, by rw [HX.out]; exact HO3.out, HAP.out, by omega, HCE3.out, HP3.out, HS.out, HR3.out⟩
        case measure => simp [intOf]; omega
    · have hx : ps.take k = ps := List.take_of_length_le (by have := HPQ.out; omega)
      rw [hx] at HO hlen
      obtain ⟨A2, c2, rfl, hs2⟩ := HO.out.sl encI_len
      have HS2 := Lib.hid hs2
      have HI2 := Lib.hid (idx_sub HI.out (fun x hx => (List.mem_filter.1 hx).1 : ∀ x ∈ flt (gAt xs) t ps, x ∈ ps))
      clear hx hs2
      go_wp2_with fail
      refine (cheapest_any A A2 len cap _ c2 xs free _ wr (H.out.below HR.out) HS2.out (by omega) (by omega) HW.out.1.1 HI2.out HW.out.2).mono ?_
      rintro e w3 ⟨v3, rfl, hown3, hb3⟩
      have HO3 := Lib.hid (hown3.base_le (base' := w.heap.size) hsz)
      have HB3 := Lib.hid (below_trans HR.out hb3)
      clear hown3 hb3
      go_wp2_with fail
      go_ret
      exact ⟨_, rfl, HO3.out, HB3.out⟩
end Go.Proofs.Ytngbpdijempkpaa
