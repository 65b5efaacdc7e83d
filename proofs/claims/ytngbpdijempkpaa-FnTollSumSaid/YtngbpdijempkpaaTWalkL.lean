/- Contracts: l8Least and TollLeast of the reference. -/
import Derived.Test.YtngbpdijempkpaaTWalkC
import Derived.Test.YtngbpdijempkpaaCat
import Derived.Deep.RegionHeld3
set_option linter.unusedVariables false
namespace Go.Proofs.Ytngbpdijempkpaa
open Go.RowKit

theorem least_bd {g : Int → T3} {free : Int} : ∀ (ps : List Int) (c : Int → Int), (∀ i ∈ ps, 1 ≤ (g i).c ∧ (g i).c ≤ 99) → (0 : Int) ≤ least g free ps c ∧ least g free ps c ≤ 99 * ps.length
  | [], _, _ => by simp [least]
  | i :: ps, c, h => by
    have hi := h i (List.mem_cons_self ..)
    have h1 := least_bd (free := free) ps (up g free c i) fun j hj => h j (List.mem_cons_of_mem _ hj)
    have h2 := least_bd (free := free) ps c fun j hj => h j (List.mem_cons_of_mem _ hj)
    simp only [least, List.length_cons]
    split <;> omega
theorem least_at {g : Int → T3} {free : Int} {ps : List Int} {k : Nat} {q : Int} (h : ps[k]? = some q) (c : Int → Int) :
    least g free (ps.drop k) c = if (g q).a ≤ c (g q).b then min ((g q).c + least g free (ps.drop (k + 1)) (up g free c q)) (least g free (ps.drop (k + 1)) c) else (g q).c + least g free (ps.drop (k + 1)) (up g free c q) := by
  have hk := List.getElem?_eq_some_iff.1 h
  rw [List.drop_eq_getElem_cons hk.1, hk.2]
  rfl

set_option maxRecDepth 20000 in
set_option maxHeartbeats 4000000 in
theorem l8Least_any (A B : Option Addr) (len cap pl c : Nat) (xs : List T3) (free f t : Int) (ps : List Int) (hn : len ≤ 1048576) (hG : TollOk xs free f t) (hps : ps = idxIf (inW f t) xs) (hxl : xs.length = len) (hpl : ps.length = pl) :
    ∀ (d i : Nat) (C : Option Addr) (m e : Nat) (out : List Int) (w : World), i + d = pl → SlE 3 enc3 w A len xs → SlE 1 encI w B pl ps → SlE 1 encI w C m out → out.Sublist (ps.take i) →
      Calls Try.prog 65 #[.slice A len cap, .int .i64 free, .slice B pl c, .int .i64 i, .slice C m e] w (Only (.int .i64 (least (gAt xs) free (ps.drop i) (tk (gAt xs) free out))) w)
  | 0, i, C, m, e, out, w, hid, h, h', h'', hsub => by
    have hi : i = pl := by omega
    subst hi
    rw [List.drop_eq_nil_of_le (by omega)]
    simp only [least]
    clear hps hpl hxl h h' h'' hid hsub
    go_enter Try.func65, Try.ntmps65
    go_wp2
    go_ret
    exact ⟨rfl, Below.refl _ _⟩
  | d + 1, i, C, m, e, out, w, hid, h, h', h'', hsub => by
    have IH := Lib.hid (fun (C : Option Addr) (m e : Nat) (out : List Int) (w : World) => l8Least_any A B len cap pl c xs free f t ps hn hG hps hxl hpl d (i + 1) C m e out w (by omega))
    have hil : i < pl := by omega
    have hpn : pl ≤ len := by rw [← hpl, ← hxl, hps]; exact idxIf_len _ _
    obtain ⟨bp, op, q, rfl, hbp, hx, hdd, p0⟩ := at1 h' (Below.refl _ w) hil
    have hmem : q ∈ idxIf (inW f t) xs := by rw [← hps]; exact mem_at hx
    obtain ⟨j, rfl, hj, hxj, ga0, ga1, gb0, gb1, gc0, gc1⟩ := gate_of hG.1.1 hmem
    have hjl : j < len := by omega
    obtain ⟨bg, og, x, y, z, rfl, hbg, hx1, hdd3, g0, g1, g2⟩ := at3 h (Below.refl _ w) hjl
    have hz1 := gAt_at hx1
    rw [hz1] at gc0 gc1
    simp only at gc0 gc1
    have hA : Asc (gAt xs) ps := by rw [hps]; exact idxIf_asc hG.1.1
    have hI : IdxOf len ps := by rw [hps]; exact way_idx hG.1.1 hxl
    have hml : m ≤ i := by
      have h1 := hsub.length_le
      have h2 := List.length_take_le i ps
      have h3 := h''.len
      omega
    have hfr := ahead_tk hA hG.2.1 hsub hx
    have hL := least_at (g := gAt xs) (free := free) hx (tk (gAt xs) free out)
    rw [hz1] at hfr hL
    simp only at hfr hL
    have hbd : ∀ c, (0 : Int) ≤ least (gAt xs) free (ps.drop (i + 1)) c ∧ least (gAt xs) free (ps.drop (i + 1)) c ≤ 99 * (ps.drop (i + 1)).length := fun c => least_bd _ c fun k hk => by
      have hk' : k ∈ idxIf (inW f t) xs := by rw [← hps]; exact List.mem_of_mem_drop hk
      obtain ⟨_, _, _, _, _, _, _, _, h1, h2⟩ := gate_of hG.1.1 hk'
      exact ⟨h1, h2⟩
    have hdl : (ps.drop (i + 1)).length ≤ len := by rw [List.length_drop]; omega
    have HL := Lib.hid hL
    have HFR := Lib.hid hfr
    have HBD := Lib.hid hbd
    have HG := Lib.hid hG
    have HTS := Lib.hid (tk_snoc (g := gAt xs) (free := free) out (j : Int))
    have HSN := Lib.hid (show (out ++ [(j : Int)]).Sublist (ps.take (i + 1)) by rw [take_next hx]; exact hsub.append (List.Sublist.refl _))
    have HSM := Lib.hid (show out.Sublist (ps.take (i + 1)) by rw [take_next hx]; exact hsub.trans (List.sublist_append_left _ _))
    have HIO := Lib.hid (idx_sub hI (fun x hx => List.mem_of_mem_take (hsub.subset hx)))
    have H := Lib.hid h
    have H' := Lib.hid h'
    have H'' := Lib.hid h''
    have HML := Lib.hid h''.len
    have HK := Lib.hid (fun (W : World) (hw : Below w.heap.size w W) => (⟨(hw.cell (p := ⟨bp, _, none⟩) hbp).trans p0, (hw.cell (p := ⟨bg, _, none⟩) hbg).trans g2⟩ : W.cell? ⟨bp, op + i, none⟩ = some (.int .i64 j) ∧ W.cell? ⟨bg, og + j * 3 + 2, none⟩ = some (.int .i64 z)))
    have x1 : IntKind.i64.wrap ((i : Int) + 1) = (i : Int) + 1 := IntWalk.i64_in _ (by omega)
    have k1 : (i : Int) ≠ (pl : Int) := by omega
    have k2 : ((i : Int) == (pl : Int)) = false := by simp; omega
    have k3 : (i : Int) < (pl : Int) := by omega
    have k4 : (j : Int) < (len : Int) := by omega
    clear hdd hdd3 hx hx1 hxj hmem hA hI hfr hL hbd hsub h h' h'' hps hpl hxl hG hz1 p0 g0 g1 g2 hj ga0 ga1 gb0 gb1 k1
    -- the worlds in which the first append may run
    have ow : ∀ (W : World) (g : Nat), w.heap.size ≤ W.heap.size → g = W.heap.size → OwnE 1 encI 3 w.heap.size (W.alloc (.cells #[] 3)) (.slice (some ⟨g, 0, none⟩) 0 0) [] :=
      fun W g h1 h2 => own_new' W _ _ h1 encI_len [] #[] rfl (by simp) rfl h2
    have sn : ∀ (W : World) (g : Nat), g = W.heap.size → SlE 1 encI (W.alloc (.cells #[.int .i64 j] 3)) (some ⟨g, 0, none⟩) 1 [(j : Int)] :=
      fun W g h2 => slE_new W _ encI_len [(j : Int)] #[.int .i64 j] rfl (by simp [maxLen]) rfl h2
    have z1 : (w.alloc (.cells #[] 3)).heap.size = w.heap.size + 1 := by simp
    have z2 : (w.alloc (.cells #[.int .i64 (j : Int)] 3)).heap.size = w.heap.size + 1 := by simp
    have B0 := Lib.hid (Below.refl w.heap.size w).drew
    have Ba := Lib.hid (below_alloc (Below.refl w.heap.size w) (.cells #[] 3)).drew
    have Bb := Lib.hid (below_alloc (below_alloc (Below.refl w.heap.size w) (.cells #[] 3)) (.cells #[.int .i64 (j : Int)] 3)).drew
    have Bc := Lib.hid (below_alloc (Below.refl w.heap.size w) (.cells #[.int .i64 (j : Int)] 3)).drew
    have Bd := Lib.hid (below_alloc (below_alloc (Below.refl w.heap.size w) (.cells #[.int .i64 (j : Int)] 3)) (.cells #[] 3)).drew
    have Oa := Lib.hid (ow w w.heap.size (Nat.le_refl _) rfl).drew
    have Ob := Lib.hid ((ow w w.heap.size (Nat.le_refl _) rfl).alloc (.cells #[.int .i64 (j : Int)] 3)).drew
    have Od := Lib.hid (ow (w.alloc (.cells #[.int .i64 (j : Int)] 3)) (w.heap.size + 1) (by omega) z2.symm).drew
    have Sb := Lib.hid (sn (w.alloc (.cells #[] 3)) (w.heap.size + 1) z1.symm).drew
    have Sd := Lib.hid ((sn w w.heap.size rfl).alloc (.cells #[] 3)).drew
    have Xa := Lib.hid (show w.heap.size ≤ (w.alloc (.cells #[] 3)).drew.heap.size from by simp)
    have Xb := Lib.hid (show w.heap.size ≤ ((w.alloc (.cells #[] 3)).alloc (.cells #[.int .i64 (j : Int)] 3)).drew.heap.size from by simp <;> omega)
    have Xd := Lib.hid (show w.heap.size ≤ ((w.alloc (.cells #[.int .i64 (j : Int)] 3)).alloc (.cells #[] 3)).drew.heap.size from by simp <;> omega)
    have Ra := Lib.hid (show ∀ j, Value.ownBlock (.slice (some ⟨w.heap.size, 0, none⟩) 0 0) = some j → w.heap.size ≤ j from fun j hj => by simp [Value.ownBlock] at hj; omega)
    have Rd := Lib.hid (show ∀ j, Value.ownBlock (.slice (some ⟨w.heap.size + 1, 0, none⟩) 0 0) = some j → w.heap.size ≤ j from fun j hj => by simp [Value.ownBlock] at hj; omega)
    have Nb := Lib.hid (show Value.ownBlock (.slice (some ⟨w.heap.size, 0, none⟩) 0 0) ≠ some (w.heap.size + 1) from by simp [Value.ownBlock])
    have Nd := Lib.hid (show Value.ownBlock (.slice (some ⟨w.heap.size + 1, 0, none⟩) 0 0) ≠ some w.heap.size from by simp [Value.ownBlock])
    have SN := Lib.hid sn
    have n1 : (([] : List Int).length + m) * 8 ≤ 140737488355328 ∧ ([] : List Int).length + m ≤ maxLen := by rw [List.length_nil]; exact ⟨by omega, by unfold maxLen; omega⟩
    have n2 : (([] ++ out).length + 1) * 8 ≤ 140737488355328 ∧ ([] ++ out).length + 1 ≤ maxLen := by rw [List.nil_append, HML.out]; exact ⟨by omega, by unfold maxLen; omega⟩
    have N1 := Lib.hid n1
    have N2 := Lib.hid n2
    have HLL := Lib.hid (show (out ++ [(j : Int)]).length = m + 1 by rw [List.length_append, HML.out]; rfl)
    clear ow sn z1 z2 n1 n2
    have HB1 := HBD.out (up (gAt xs) free (tk (gAt xs) free out) j)
    have HB2 := HBD.out (tk (gAt xs) free out)
    go_enter Try.func65, Try.ntmps65
    go_wp2_with fail
    go_region_held3 (fun W => W.cell? ⟨bp, op + i, none⟩ = some (.int .i64 j) ∧ W.cell? ⟨bg, og + j * 3 + 2, none⟩ = some (.int .i64 z))
      (first | exact HK.out _ B0.out | exact HK.out _ Ba.out | exact HK.out _ Bb.out | exact HK.out _ Bc.out | exact HK.out _ Bd.out | (have := B1.out; exact HK.out _ this) | (have := B2.out; exact HK.out _ this) | (have := B1.out; exact HK.out _ (below_alloc this (.cells #[.int .i64 (j : Int)] 3))) | (have := B4.out; exact HK.out _ this) | fail)
      (first
        | (refine step_cat (bytes := 8) (base := w.heap.size) encI_len encI_one (Nat.succ_pos 0) rfl (.tmp 29) (.tmp 30) _ rfl Try.underlying35 info_int rfl _ [] rfl Oa.out rfl (H''.out.below Ba.out) N1.out.1 N1.out.2 Xa.out ?_; intro v1 w1 hown1 hg1; have X1 := Lib.hid (Nat.le_trans Xa.out hg1.size); have B1 := Lib.hid (Ba.out.grown hg1 Xa.out Ra.out);  have O1 := Lib.hid hown1; clear hown1 hg1)
        | (refine step_cat (bytes := 8) (base := w.heap.size) encI_len encI_one (Nat.succ_pos 0) rfl (.tmp 29) (.tmp 30) _ rfl Try.underlying35 info_int rfl _ [] rfl Ob.out rfl (H''.out.below Bb.out) N1.out.1 N1.out.2 Xb.out ?_; intro v1 w1 hown1 hg1; have X1 := Lib.hid (Nat.le_trans Xb.out hg1.size); have B1 := Lib.hid (Bb.out.grown hg1 Xb.out Ra.out); have S1 := Lib.hid (Sb.out.grown hg1 Nb.out); have O1 := Lib.hid hown1; clear hown1 hg1)
        | (refine step_cat (bytes := 8) (base := w.heap.size) encI_len encI_one (Nat.succ_pos 0) rfl (.tmp 29) (.tmp 30) _ rfl Try.underlying35 info_int rfl _ [] rfl Od.out rfl (H''.out.below Bd.out) N1.out.1 N1.out.2 Xd.out ?_; intro v1 w1 hown1 hg1; have X1 := Lib.hid (Nat.le_trans Xd.out hg1.size); have B1 := Lib.hid (Bd.out.grown hg1 Xd.out Rd.out); have S1 := Lib.hid (Sd.out.grown hg1 Nd.out); have O1 := Lib.hid hown1; clear hown1 hg1)
        | (refine step_cat (bytes := 8) (base := w.heap.size) encI_len encI_one (Nat.succ_pos 0) rfl (.tmp 31) (.tmp 36) _ rfl Try.underlying35 info_int rfl _ _ rfl O1.out rfl S1.out N2.out.1 N2.out.2 X1.out ?_; intro v2 w2 hown2 hg2; have B2 := Lib.hid (B1.out.grown hg2 X1.out (fun j hj => (O1.out.lt j hj).1)); rw [List.nil_append] at hown2; obtain ⟨A2, c2, rfl, hs2⟩ := hown2.sl encI_len; rw [HLL.out] at hs2 ⊢; have S2 := Lib.hid hs2; clear hown2 hg2 hs2)
        | (refine step_cat (bytes := 8) (base := w.heap.size) encI_len encI_one (Nat.succ_pos 0) rfl (.tmp 31) (.tmp 36) _ rfl Try.underlying35 info_int rfl _ _ rfl (O1.out.alloc _) rfl (SN.out w1 _ rfl) N2.out.1 N2.out.2 (Nat.le_trans X1.out (below_alloc (Below.refl _ w1) _).size) ?_; intro v2 w2 hown2 hg2; have B2 := Lib.hid ((B1.out.alloc X1.out _).grown hg2 (Nat.le_trans X1.out (below_alloc (Below.refl _ w1) _).size) (fun j hj => (O1.out.lt j hj).1)); rw [List.nil_append] at hown2; obtain ⟨A2, c2, rfl, hs2⟩ := hown2.sl encI_len; rw [HLL.out] at hs2 ⊢; have S2 := Lib.hid hs2; clear hown2 hg2 hs2)
        | (go_at_call 65; refine (IH.out _ _ _ _ _ (H.out.below B2.out) (H'.out.below B2.out) S2.out HSN.out).mono ?_; rintro e4 w4 ⟨rfl, hb4⟩; rw [HTS.out]; have B4 := Lib.hid (below_trans B2.out hb4); clear hb4)
        | fail)
    all_goals
      have HL3 := Lib.hid HB1
      have HL4 := Lib.hid HB2
      have hz0 : 1 ≤ z ∧ z ≤ 99 := ⟨gc0, gc1⟩
      clear HB1 HB2 gc0 gc1
      generalize least (gAt xs) free (ps.drop (i + 1)) (up (gAt xs) free (tk (gAt xs) free out) j) = L1 at *
      generalize hl2 : least (gAt xs) free (ps.drop (i + 1)) (tk (gAt xs) free out) = L2 at *
      have HE2 := Lib.hid hl2
      clear hl2
      have hb1 := HL3.out
      have hb2 := HL4.out
      have x2 : IntKind.i64.wrap (z + L1) = z + L1 := IntWalk.i64_in _ (by omega)
      rw [x2]
      clear x2
      by_cases hF : Freed (gAt xs) free out j
      · have HRES : Hid (least (gAt xs) free (ps.drop i) (tk (gAt xs) free out) = min (z + L1) L2) := by have := HL.out; rw [if_pos (HFR.out.2 hF)] at this; exact this
        have HF := Lib.hid hF
        clear hF
        go_wp2_with fail
        refine (l8Freed_any _ _ _ _ _ _ _ _ _ j _ (H.out.below B4.out) (H''.out.below B4.out) (by omega) (by omega) HG.out.1.1 hjl HIO.out).mono ?_
        intro e5 w5 hp
        obtain ⟨rfl, hb5⟩ := hp.yes HF.out
        have B5 := Lib.hid (below_trans B4.out hb5)
        clear hp hb5
        go_wp2_with (go_at_call 65; refine (IH.out _ _ _ _ _ (H.out.below B5.out) (H'.out.below B5.out) (H''.out.below B5.out) HSM.out).mono ?_; rintro e6 w6 ⟨rfl, hb6⟩; rw [HE2.out]; have B6 := Lib.hid (below_trans B5.out hb6); clear hb6)
        all_goals
          go_ret
          exact ⟨ret_int (by rw [HRES.out]; omega), B6.out⟩
      · have HRES : Hid (least (gAt xs) free (ps.drop i) (tk (gAt xs) free out) = z + L1) := by have := HL.out; rw [if_neg (fun h => hF (HFR.out.1 h))] at this; exact this
        have HF := Lib.hid hF
        clear hF
        go_wp2_with fail
        refine (l8Freed_any _ _ _ _ _ _ _ _ _ j _ (H.out.below B4.out) (H''.out.below B4.out) (by omega) (by omega) HG.out.1.1 hjl HIO.out).mono ?_
        intro e5 w5 hp
        obtain ⟨rfl, hb5⟩ := hp.no HF.out
        have B5 := Lib.hid (below_trans B4.out hb5)
        clear hp hb5
        go_wp2_with fail
        go_ret
        exact ⟨ret_int HRES.out.symm, B5.out⟩
end Go.Proofs.Ytngbpdijempkpaa
