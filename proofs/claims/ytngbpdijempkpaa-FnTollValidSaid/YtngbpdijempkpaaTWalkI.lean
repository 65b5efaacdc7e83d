/- Contracts: TollBest of the reference. -/
import Derived.Test.YtngbpdijempkpaaTWalkH
import Derived.Deep.RegionHeld3
set_option linter.unusedVariables false
namespace Go.Proofs.Ytngbpdijempkpaa
open Go.RowKit

set_option maxRecDepth 20000 in
set_option maxHeartbeats 6400000 in
theorem specTollBest_any (A : Option Addr) (len cap : Nat) (xs : List T3) (free f t : Int) (ys : List Int) (bb : Bool) (w : World) (h : SlE 3 enc3 w A len xs) (hn : len ≤ 1048576) (hy : BestIs xs (TollOk xs free f t) f t free ys bb) :
    Calls Try.prog 41 #[.slice A len cap, .int .i64 free, .int .i64 f, .int .i64 t] w (RetOwnB 1 encI 3 ys bb w) := by
  have H := Lib.hid h
  have HXL := Lib.hid h.len
  clear h
  rcases hy with ⟨rfl, hW, rfl⟩ | ⟨rfl, hW, rfl⟩
  · have HW := Lib.hid hW
    have HI := Lib.hid (way_idx (f := inW f t) hW.1.1 HXL.out)
    have hpl := Nat.le_trans (idxIf_len (inW f t) xs) (Nat.le_of_eq HXL.out)
    have HL := Lib.hid (fun (B : Option Addr) (pl c i m e : Nat) (C : Option Addr) (out : List Int) (W : World) (hpl : (idxIf (inW f t) xs).length = pl) (hi : i ≤ pl) h1 h2 h3 h4 => l8Least_any A B len cap pl c xs free f t (idxIf (inW f t) xs) hn hW rfl HXL.out hpl (pl - i) i C m e out W (by omega) h1 h2 h3 h4)
    have HGP := Lib.hid (fun W hS => specGatesPassed_any A len cap xs f t _ W hS hn (.inl ⟨hW.1, rfl⟩))
    have hbd : ∀ k c, (0 : Int) ≤ least (gAt xs) free ((idxIf (inW f t) xs).drop k) c ∧ least (gAt xs) free ((idxIf (inW f t) xs).drop k) c ≤ 99 * 1048576 := fun k c => by
      have h1 := least_bd (g := gAt xs) (free := free) ((idxIf (inW f t) xs).drop k) c fun q hq => by
        obtain ⟨_, _, _, _, _, _, _, _, h1, h2⟩ := gate_of hW.1.1 (List.mem_of_mem_drop hq)
        exact ⟨h1, h2⟩
      have h2 : ((idxIf (inW f t) xs).drop k).length ≤ 1048576 := by rw [List.length_drop]; omega
      omega
    have HBD := Lib.hid hbd
    clear hW hbd
    generalize idxIf (inW f t) xs = ps at *
    go_enter Try.func41, Try.ntmps41
    go_wp2_with fail
    refine (l8Ok_any A len cap xs free f t _ (H.out.alloc _) (by omega)).mono ?_
    intro e w1 hp
    obtain ⟨rfl, hb1⟩ := hp.yes HW.out
    have HB1 := Lib.hid (below_trans (below_alloc (Below.refl _ w) _) hb1)
    have HO1 := Lib.hid (OwnE.below (own_new (enc := encI) (k := 1) w 3 w.heap.size (Nat.le_refl _) encI_len [] #[] rfl (by simp) rfl) hb1 (Nat.le_refl _))
    have hz1 : w.heap.size + 1 ≤ w1.heap.size := by have := hb1.size; simpa using this
    clear hb1 hp
    go_wp2_with fail
    refine (HGP.out w1 (H.out.below HB1.out)).mono ?_
    rintro e w2 ⟨v, rfl, hown, hb2⟩
    obtain ⟨A1, c1, rfl, hs1⟩ := hown.sl encI_len
    have HP2 := Lib.hid (hown.base_le (base' := w.heap.size + 1) hz1)
    have HB2 := Lib.hid (below_trans HB1.out hb2)
    have HO2 := Lib.hid (HO1.out.below hb2 (Nat.le_refl _))
    clear hown hb2 hs1
    generalize hpq : ps.length = pl at *
    have HPQ := Lib.hid hpq
    clear hpq
    have HSP := Lib.hid (sep_start (n := 0) (c := 0) (fun j hj => by have := (HP2.out.lt j hj).1; omega : ∀ j, (Value.slice A1 pl c1).ownBlock = some j → w.heap.size < j))
    go_wp2_with fail
    go_loopw [10, 12, 13, 14] (fun s i _ _ wr => ∃ (k : Nat) (o : List Int), k ≤ pl ∧ i = .int .i64 k ∧ OwnE 1 encI 3 w.heap.size wr s o ∧ Found (gAt xs) free ps k o ∧ OwnE 1 encI 3 (w.heap.size + 1) wr (.slice A1 pl c1) ps ∧ Sep s (.slice A1 pl c1) ∧ Below w.heap.size w wr) (fun _ i _ _ _ => pl - (intOf i).toNat)
    case atStart => exact ⟨0, [], by omega, rfl, HO2.out, found_start _, HP2.out, HSP.out, HB2.out⟩
    case round =>
      obtain ⟨k, o, hk, rfl, hown, hfo, hpas, hsep, hbr⟩ := hrel
      obtain ⟨Ao, co, rfl, hso, _⟩ := hown.slc encI_len rfl
      have HOL := Lib.hid (show o.length ≤ k by have h1 := hfo.1.length_le; have h2 := List.length_take_le k ps; omega)
      have HO := Lib.hid hown
      have HF := Lib.hid hfo
      have HP := Lib.hid hpas
      have HS := Lib.hid hsep
      have HR := Lib.hid hbr
      have HSO := Lib.hid hso
      have hsz := hbr.size
      clear hown hfo hpas hsep hbr hso
      by_cases hlt : k < pl
      · have hol := HOL.out
        generalize hgl : o.length = ol at *
        have HGL := Lib.hid hgl
        clear hgl HOL
        obtain ⟨bp, op, q, rfl, hbp, hx, hd, p0⟩ := at1 (sl_of_own_at encI_len HP.out HPQ.out) (Below.refl _ wr) hlt
        obtain ⟨hq0, hq1⟩ := HI.out q (mem_at hx)
        obtain ⟨q, rfl⟩ : ∃ n : Nat, q = n := ⟨q.toNat, by omega⟩
        have hq1' : q < len := by omega
        obtain ⟨bg, og, x, y, z, rfl, hbg, hx1, hd1, g0, g1, g2⟩ := at3 H.out HR.out hq1'
        have hgq := HW.out.1.1.2 q _ hx1
        unfold GOk at hgq
        simp only at hgq
        obtain ⟨hza, hzb⟩ : 1 ≤ z ∧ z ≤ 99 := ⟨by omega, by omega⟩
        have HQ := Lib.hid (gAt_at hx1)
        have HX := Lib.hid hx
        have HPS := Lib.hid (sl_of_own_at encI_len HP.out HPQ.out)
        have HPAY := Lib.hid (fun he => found_pay HF.out hx he)
        have HSKIP := Lib.hid (fun he => found_skip HF.out hx he)
        have HTS := Lib.hid (tk_snoc (g := gAt xs) (free := free) o (q : Int))
        have HSN := Lib.hid (show (o ++ [(q : Int)]).Sublist (ps.take (k + 1)) by rw [take_next hx]; exact HF.out.1.append (List.Sublist.refl _))
        rw [HQ.out] at HPAY HSKIP
        have hb1 := HBD.out (k + 1) (up (gAt xs) free (tk (gAt xs) free o) q)
        clear hx hd hx1 hd1 hgq
        -- the least sum from here on
        go_wp2_with fail
        refine (HL.out _ _ _ k _ _ _ o wr rfl hk (H.out.below HR.out) HPS.out HSO.out HF.out.1).mono ?_
        rintro e w4 ⟨rfl, hb4⟩
        have HR4 := Lib.hid (below_trans HR.out hb4)
        have HO4 := Lib.hid (HO.out.below hb4 (Nat.le_refl _))
        have HP4 := Lib.hid (HP.out.below hb4 (Nat.le_refl _))
        have HSO4 := Lib.hid (HSO.out.below hb4)
        have hbp4 := Nat.lt_of_lt_of_le hbp hb4.size
        have hbg4 := Nat.lt_of_lt_of_le hbg hb4.size
        have p4 := (hb4.cell (p := ⟨bp, op + k, none⟩) hbp).trans p0
        have g4 := (hb4.cell (p := ⟨bg, og + q * 3 + 2, none⟩) hbg).trans g2
        clear hb4 HO HP HSO HPS p0 g0 g1 g2 hbp hbg HR
        have HK := Lib.hid (fun (W : World) (hw : Below w4.heap.size w4 W) => (⟨(hw.cell (p := ⟨bp, _, none⟩) hbp4).trans p4, (hw.cell (p := ⟨bg, _, none⟩) hbg4).trans g4⟩ : W.cell? ⟨bp, op + k, none⟩ = some (.int .i64 q) ∧ W.cell? ⟨bg, og + q * 3 + 2, none⟩ = some (.int .i64 z)))
        clear p4 g4
        -- the list with one payment more
        have ow : ∀ (W : World) (g : Nat), w4.heap.size ≤ W.heap.size → g = W.heap.size → OwnE 1 encI 3 w4.heap.size (W.alloc (.cells #[] 3)) (.slice (some ⟨g, 0, none⟩) 0 0) [] :=
          fun W g h1 h2 => own_new' W _ _ h1 encI_len [] #[] rfl (by simp) rfl h2
        have sn : ∀ (W : World) (g : Nat), g = W.heap.size → SlE 1 encI (W.alloc (.cells #[.int .i64 q] 3)) (some ⟨g, 0, none⟩) 1 [(q : Int)] :=
          fun W g h2 => slE_new W _ encI_len [(q : Int)] #[.int .i64 q] rfl (by simp [maxLen]) rfl h2
        have z1 : (w4.alloc (.cells #[] 3)).heap.size = w4.heap.size + 1 := by simp
        have z2 : (w4.alloc (.cells #[.int .i64 (q : Int)] 3)).heap.size = w4.heap.size + 1 := by simp
        have B0 := Lib.hid (Below.refl w4.heap.size w4).drew
        have Ba := Lib.hid (below_alloc (Below.refl w4.heap.size w4) (.cells #[] 3)).drew
        have Bb := Lib.hid (below_alloc (below_alloc (Below.refl w4.heap.size w4) (.cells #[] 3)) (.cells #[.int .i64 (q : Int)] 3)).drew
        have Bc := Lib.hid (below_alloc (Below.refl w4.heap.size w4) (.cells #[.int .i64 (q : Int)] 3)).drew
        have Bd := Lib.hid (below_alloc (below_alloc (Below.refl w4.heap.size w4) (.cells #[.int .i64 (q : Int)] 3)) (.cells #[] 3)).drew
        have Oa := Lib.hid (ow w4 w4.heap.size (Nat.le_refl _) rfl).drew
        have Ob := Lib.hid ((ow w4 w4.heap.size (Nat.le_refl _) rfl).alloc (.cells #[.int .i64 (q : Int)] 3)).drew
        have Od := Lib.hid (ow (w4.alloc (.cells #[.int .i64 (q : Int)] 3)) (w4.heap.size + 1) (by omega) z2.symm).drew
        have Sb := Lib.hid (sn (w4.alloc (.cells #[] 3)) (w4.heap.size + 1) z1.symm).drew
        have Sd := Lib.hid ((sn w4 w4.heap.size rfl).alloc (.cells #[] 3)).drew
        have Xa := Lib.hid (show w4.heap.size ≤ (w4.alloc (.cells #[] 3)).drew.heap.size from by simp)
        have Xb := Lib.hid (show w4.heap.size ≤ ((w4.alloc (.cells #[] 3)).alloc (.cells #[.int .i64 (q : Int)] 3)).drew.heap.size from by simp <;> omega)
        have Xd := Lib.hid (show w4.heap.size ≤ ((w4.alloc (.cells #[.int .i64 (q : Int)] 3)).alloc (.cells #[] 3)).drew.heap.size from by simp <;> omega)
        have Ra := Lib.hid (show ∀ j, Value.ownBlock (.slice (some ⟨w4.heap.size, 0, none⟩) 0 0) = some j → w4.heap.size ≤ j from fun j hj => by simp [Value.ownBlock] at hj; omega)
        have Rd := Lib.hid (show ∀ j, Value.ownBlock (.slice (some ⟨w4.heap.size + 1, 0, none⟩) 0 0) = some j → w4.heap.size ≤ j from fun j hj => by simp [Value.ownBlock] at hj; omega)
        have Nb := Lib.hid (show Value.ownBlock (.slice (some ⟨w4.heap.size, 0, none⟩) 0 0) ≠ some (w4.heap.size + 1) from by simp [Value.ownBlock])
        have Nd := Lib.hid (show Value.ownBlock (.slice (some ⟨w4.heap.size + 1, 0, none⟩) 0 0) ≠ some w4.heap.size from by simp [Value.ownBlock])
        have SN := Lib.hid sn
        have n1 : (([] : List Int).length + ol) * 8 ≤ 140737488355328 ∧ ([] : List Int).length + ol ≤ maxLen := by rw [List.length_nil]; exact ⟨by omega, by unfold maxLen; omega⟩
        have n2 : (([] ++ o).length + 1) * 8 ≤ 140737488355328 ∧ ([] ++ o).length + 1 ≤ maxLen := by rw [List.nil_append, HGL.out]; exact ⟨by omega, by unfold maxLen; omega⟩
        have N1 := Lib.hid n1
        have N2 := Lib.hid n2
        have HLL := Lib.hid (show (o ++ [(q : Int)]).length = ol + 1 by rw [List.length_append, HGL.out]; rfl)
        have x1 : IntKind.i64.wrap ((k : Int) + 1) = (k : Int) + 1 := IntWalk.i64_in _ (by omega)
        clear ow sn z1 z2 n1 n2
        go_wp2_with fail
        go_region_held3 (fun W => W.cell? ⟨bp, op + k, none⟩ = some (.int .i64 q) ∧ W.cell? ⟨bg, og + q * 3 + 2, none⟩ = some (.int .i64 z))
          (first | exact HK.out _ B0.out | exact HK.out _ Ba.out | exact HK.out _ Bb.out | exact HK.out _ Bc.out | exact HK.out _ Bd.out | (have := B1.out; exact HK.out _ this) | (have := B2.out; exact HK.out _ this) | (have := B1.out; exact HK.out _ (below_alloc this (.cells #[.int .i64 (q : Int)] 3))) | fail)
          (first
            | (refine step_cat (bytes := 8) (base := w4.heap.size) encI_len encI_one (Nat.succ_pos 0) rfl (.tmp 39) (.tmp 40) _ rfl Try.underlying35 info_int rfl _ [] rfl Oa.out rfl (HSO4.out.below Ba.out) N1.out.1 N1.out.2 Xa.out ?_; intro v1 w1' hown1 hg1; have X1 := Lib.hid (Nat.le_trans Xa.out hg1.size); have B1 := Lib.hid (Ba.out.grown hg1 Xa.out Ra.out);  have O1 := Lib.hid hown1; clear hown1 hg1)
            | (refine step_cat (bytes := 8) (base := w4.heap.size) encI_len encI_one (Nat.succ_pos 0) rfl (.tmp 39) (.tmp 40) _ rfl Try.underlying35 info_int rfl _ [] rfl Ob.out rfl (HSO4.out.below Bb.out) N1.out.1 N1.out.2 Xb.out ?_; intro v1 w1' hown1 hg1; have X1 := Lib.hid (Nat.le_trans Xb.out hg1.size); have B1 := Lib.hid (Bb.out.grown hg1 Xb.out Ra.out); have S1 := Lib.hid (Sb.out.grown hg1 Nb.out); have O1 := Lib.hid hown1; clear hown1 hg1)
            | (refine step_cat (bytes := 8) (base := w4.heap.size) encI_len encI_one (Nat.succ_pos 0) rfl (.tmp 39) (.tmp 40) _ rfl Try.underlying35 info_int rfl _ [] rfl Od.out rfl (HSO4.out.below Bd.out) N1.out.1 N1.out.2 Xd.out ?_; intro v1 w1' hown1 hg1; have X1 := Lib.hid (Nat.le_trans Xd.out hg1.size); have B1 := Lib.hid (Bd.out.grown hg1 Xd.out Rd.out); have S1 := Lib.hid (Sd.out.grown hg1 Nd.out); have O1 := Lib.hid hown1; clear hown1 hg1)
            | (refine step_cat (bytes := 8) (base := w4.heap.size) encI_len encI_one (Nat.succ_pos 0) rfl (.tmp 41) (.tmp 46) _ rfl Try.underlying35 info_int rfl _ _ rfl O1.out rfl S1.out N2.out.1 N2.out.2 X1.out ?_; intro v2 w2' hown2 hg2; have B2 := Lib.hid (B1.out.grown hg2 X1.out (fun j hj => (O1.out.lt j hj).1)); rw [List.nil_append] at hown2; have O2 := Lib.hid hown2; clear hown2 hg2)
            | (refine step_cat (bytes := 8) (base := w4.heap.size) encI_len encI_one (Nat.succ_pos 0) rfl (.tmp 41) (.tmp 46) _ rfl Try.underlying35 info_int rfl _ _ rfl (O1.out.alloc _) rfl (SN.out w1' _ rfl) N2.out.1 N2.out.2 (Nat.le_trans X1.out (below_alloc (Below.refl _ w1') _).size) ?_; intro v2 w2' hown2 hg2; have B2 := Lib.hid ((B1.out.alloc X1.out _).grown hg2 (Nat.le_trans X1.out (below_alloc (Below.refl _ w1') _).size) (fun j hj => (O1.out.lt j hj).1)); rw [List.nil_append] at hown2; have O2 := Lib.hid hown2; clear hown2 hg2)
            | fail)
        all_goals
          have HO5 := Lib.hid O2.out
          have HB5 := Lib.hid B2.out
          clear O1 B1 X1 O2 B2 B0 Ba Bb Bc Bd Oa Ob Od Sb Sd Xa Xb Xd Ra Rd Nb Nd SN N1 N2
          obtain ⟨A2, c2, rfl, hs2, _⟩ := HO5.out.slc encI_len HLL.out
          have HB5d := Lib.hid (below_drew HB5.out)
          have HW5 := Lib.hid (below_trans HR4.out (below_drew HB5.out))
          have HS2d : Hid (SlE 1 encI w2'.drew A2 (ol + 1) (o ++ [(q : Int)])) := hs2
          have HP5 := Lib.hid (HP4.out.below (below_drew HB5.out) (Nat.le_refl _))
          have HO5d := Lib.hid (HO4.out.below (below_drew HB5.out) (Nat.le_refl _))
          have HN5 : Hid (OwnE 1 encI 3 w4.heap.size w2'.drew (.slice A2 (ol + 1) c2) (o ++ [(q : Int)])) := HO5.out
          have HPL5 := Lib.hid HP4.out.lt
          clear hs2
          go_wp2_with fail
          go_region_held3 (fun W => W.cell? ⟨bp, op + k, none⟩ = some (.int .i64 q) ∧ W.cell? ⟨bg, og + q * 3 + 2, none⟩ = some (.int .i64 z))
            (first | exact HK.out _ HB5d.out | (have := B6.out; exact HK.out _ (below_trans HB5d.out this)) | fail)
            (first
              | (go_at_call 65; refine (HL.out _ _ _ (k + 1) _ _ _ (o ++ [(q : Int)]) _ rfl hlt (H.out.below HW5.out) (sl_of_own_at encI_len HP5.out HPQ.out) HS2d.out HSN.out).mono ?_; rintro e6 w6 ⟨rfl, hb6⟩; rw [HTS.out]; have B6 := Lib.hid hb6; clear hb6)
              | fail)
          have HW6 := Lib.hid (below_trans HW5.out B6.out)
          have HP6 := Lib.hid (HP5.out.below B6.out (Nat.le_refl _))
          have HO6 := Lib.hid (HO5d.out.below B6.out (Nat.le_refl _))
          have HN6 := Lib.hid (HN5.out.below B6.out (Nat.le_refl _))
          have hw4 := HR4.out.size
          clear HO5 HB5 HB5d HW5 HS2d HP5 HO5d HN5 B6
          generalize least (gAt xs) free (ps.drop (k + 1)) (up (gAt xs) free (tk (gAt xs) free o) q) = L1 at *
          generalize least (gAt xs) free (ps.drop k) (tk (gAt xs) free o) = L0 at *
          have x2 : IntKind.i64.wrap (z + L1) = z + L1 := IntWalk.i64_in _ (by omega)
          rw [x2]
          clear x2
          by_cases he : z + L1 = L0
          · have HF6 := Lib.hid (HPAY.out he)
            subst he
            go_wp2
            go_roundw
            case rel => exact ⟨k + 1, _, by omega, by go_num, HN6.out.base_le hw4, HF6.out, HP6.out, own_sep HPL5.out HN6.out.lt (.inl (Nat.le_refl _)), HW6.out⟩
            case measure => simp [intOf]; omega
          · have HF6 := Lib.hid (HSKIP.out he)
            have h3' : (z + L1 == L0) = false := by simpa using he
            clear he
            go_wp2
            go_roundw
            case rel => exact ⟨k + 1, o, by omega, by go_num, HO6.out, HF6.out, HP6.out, HS.out, HW6.out⟩
            case measure => simp [intOf]; omega
      · have hkp : k = pl := by omega
        subst hkp
        have HE := Lib.hid (found_end (by rw [HPQ.out]; exact HF.out))
        clear HOL HSO
        generalize o.length = ol at *
        rw [HE.out] at HO
        go_wp2
        go_ret2
        exact ⟨_, rfl, HO.out, HR.out⟩
  · have HW := Lib.hid hW
    clear hW
    go_enter Try.func41, Try.ntmps41
    go_wp2_with fail
    refine (l8Ok_any A len cap xs free f t _ (H.out.alloc _) (by omega)).mono ?_
    intro e w1 hp
    obtain ⟨rfl, hb1⟩ := hp.no HW.out
    have HB1 := Lib.hid (below_trans (below_alloc (Below.refl _ w) _) hb1)
    have HO1 := Lib.hid (OwnE.below (own_new (enc := encI) (k := 1) w 3 w.heap.size (Nat.le_refl _) encI_len [] #[] rfl (by simp) rfl) hb1 (Nat.le_refl _))
    clear hb1 hp
    go_wp2
    go_ret2
    exact ⟨_, rfl, HO1.out, HB1.out⟩
end Go.Proofs.Ytngbpdijempkpaa
