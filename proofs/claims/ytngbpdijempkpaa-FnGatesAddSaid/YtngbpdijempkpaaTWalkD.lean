/- Contracts: TollMust of both. -/
import Derived.Test.YtngbpdijempkpaaTWalkC
import Derived.Test.YtngbpdijempkpaaPushAt
set_option linter.unusedVariables false
namespace Go.Proofs.Ytngbpdijempkpaa
open Go.RowKit

/-- What u owns stays while v grows. -/
def Sep (v u : Value) : Prop := u.ownBlock = none ∨ u.ownBlock ≠ v.ownBlock
theorem sep_next {v v' u : Value} {n : Nat} (h : Sep v u) (hl : v'.ownBlock = v.ownBlock ∨ v'.ownBlock = some n) (hu : ∀ j, u.ownBlock = some j → j < n) : Sep v' u := by
  rcases h with h | h
  · exact .inl h
  · rcases hl with hl | hl
    · exact .inr (by rw [hl]; exact h)
    · refine .inr fun e => ?_
      rw [hl] at e
      have := hu n e
      omega
theorem sep_start {u : Value} {b n c : Nat} (h : ∀ j, u.ownBlock = some j → b < j) : Sep (.slice (some ⟨b, 0, none⟩) n c) u := by
  refine .inr fun e => ?_
  have := h b (by rw [e]; rfl)
  omega
theorem must_yes {g : Int → T3} {free : Int} {ps : List Int} {k : Nat} {i : Int} (hps : Asc g ps) (hf : 0 ≤ free) (h : ps[k]? = some i) (hd : Freed g free (must g free (ps.take k)) i) : must g free (ps.take (k + 1)) = must g free (ps.take k) := by
  have hk := Nat.le_of_lt (List.getElem?_eq_some_iff.1 h).1
  rw [must_next h, if_pos ((ahead_tk hps hf (must_sub ps k hk) h).2 hd)]
theorem must_no {g : Int → T3} {free : Int} {ps : List Int} {k : Nat} {i : Int} (hps : Asc g ps) (hf : 0 ≤ free) (h : ps[k]? = some i) (hd : ¬ Freed g free (must g free (ps.take k)) i) : must g free (ps.take (k + 1)) = must g free (ps.take k) ++ [i] := by
  have hk := Nat.le_of_lt (List.getElem?_eq_some_iff.1 h).1
  rw [must_next h, if_neg (fun hh => hd ((ahead_tk hps hf (must_sub ps k hk) h).1 hh))]
theorem must_len {g : Int → T3} {free : Int} (ps : List Int) (k : Nat) (hk : k ≤ ps.length) : (must g free (ps.take k)).length ≤ k := by
  have := (must_sub (g := g) (free := free) ps k hk).length_le
  have := List.length_take_le k ps
  omega
/-- What TollMust returns. -/
def MustIs (xs : List T3) (free f t : Int) (ys : List Int) (b : Bool) : Prop :=
  (b = true ∧ TollOk xs free f t ∧ ys = must (gAt xs) free (idxIf (inW f t) xs)) ∨ (b = false ∧ ¬ TollOk xs free f t ∧ ys = [])

set_option maxRecDepth 20000 in
set_option maxHeartbeats 3200000 in
theorem specTollMust_any (A : Option Addr) (len cap : Nat) (xs : List T3) (free f t : Int) (ys : List Int) (bb : Bool) (w : World) (h : SlE 3 enc3 w A len xs) (hn : len ≤ 1048576) (hy : MustIs xs free f t ys bb) :
    Calls Try.prog 19 #[.slice A len cap, .int .i64 free, .int .i64 f, .int .i64 t] w (RetOwnB 1 encI 3 ys bb w) := by
  have H := Lib.hid h
  have HXL := Lib.hid h.len
  clear h
  rcases hy with ⟨rfl, hW, rfl⟩ | ⟨rfl, hW, rfl⟩
  · have HW := Lib.hid hW
    have hf0 := hW.2.1
    have HA := Lib.hid (idxIf_asc (f := inW f t) hW.1.1)
    have HI := Lib.hid (way_idx (f := inW f t) hW.1.1 HXL.out)
    have hpl := Nat.le_trans (idxIf_len (inW f t) xs) (Nat.le_of_eq HXL.out)
    clear hW
    go_enter Try.func19, Try.ntmps19
    go_wp2_with fail
    refine (l8Ok_any A len cap xs free f t _ (H.out.alloc _) (by omega)).mono ?_
    intro e w1 hp
    obtain ⟨rfl, hb1⟩ := hp.yes HW.out
    have HB1 := Lib.hid (below_trans (below_alloc (Below.refl _ w) _) hb1)
    have HO1 := Lib.hid (OwnE.below (own_new (enc := encI) (k := 1) w 3 w.heap.size (Nat.le_refl _) encI_len [] #[] rfl (by simp) rfl) hb1 (Nat.le_refl _))
    have hz1 : w.heap.size + 1 ≤ w1.heap.size := by have := hb1.size; simpa using this
    clear hb1 hp
    go_wp2_with fail
    refine (specGatesPassed_any A len cap xs f t _ w1 (H.out.below HB1.out) (by omega) (.inl ⟨HW.out.1, rfl⟩)).mono ?_
    generalize idxIf (inW f t) xs = ps at *
    rintro e w2 ⟨v, rfl, hown, hb2⟩
    obtain ⟨A1, c1, rfl, hs1⟩ := hown.sl encI_len
    have HP2 := Lib.hid (hown.base_le (base' := w.heap.size + 1) hz1)
    have HB2 := Lib.hid (below_trans HB1.out hb2)
    have HO2 := Lib.hid (HO1.out.below hb2 (Nat.le_refl _))
    clear hown hb2 hs1
    generalize hpq : ps.length = pl at *
    have HPQ := Lib.hid hpq
    clear hpq
    have HSP := Lib.hid (sep_start (n := 0) (c := 0) (fun j hj => by have := (HP2.out.lt j hj).1; omega : ∀ j, (Value.slice A1 pl c1).ownBlock = some j → w.heap.size < j))
    go_wp2_with fail
    go_loopw [10, 12] (fun s i wr => ∃ k : Nat, k ≤ pl ∧ i = .int .i64 k ∧ OwnE 1 encI 3 w.heap.size wr s (must (gAt xs) free (ps.take k)) ∧ OwnE 1 encI 3 (w.heap.size + 1) wr (.slice A1 pl c1) ps ∧ Sep s (.slice A1 pl c1) ∧ Below w.heap.size w wr) (fun _ i _ => pl - (intOf i).toNat)
    case atStart => exact ⟨0, by omega, rfl, HO2.out, HP2.out, HSP.out, HB2.out⟩
    case round =>
      obtain ⟨k, hk, rfl, hown, hpas, hsep, hbr⟩ := hrel
      have HML := Lib.hid (show (must (gAt xs) free (ps.take k)).length ≤ k from must_len ps k (by rw [HPQ.out]; exact hk))
      obtain ⟨A2, c2, rfl, hs2, _⟩ := hown.slc encI_len rfl
      have HO := Lib.hid hown
      have HP := Lib.hid hpas
      have HS := Lib.hid hsep
      have HR := Lib.hid hbr
      have HS2 := Lib.hid hs2
      have hsz := hbr.size
      clear hown hpas hsep hbr hs2
      by_cases hlt : k < pl
      · obtain ⟨b, off, q, rfl, hbl, hx, hd, h0⟩ := at1 (sl_of_own_at encI_len HP.out HPQ.out) (Below.refl _ wr) hlt
        obtain ⟨hq0, hq1⟩ := HI.out q (mem_at hx)
        obtain ⟨q, rfl⟩ : ∃ n : Nat, q = n := ⟨q.toNat, by omega⟩
        have hq1' : q < len := by omega
        have HIM := Lib.hid (idx_sub HI.out (fun x hx => List.mem_of_mem_take ((must_sub (g := gAt xs) (free := free) ps k (by rw [HPQ.out]; exact hk)).subset hx)))
        have hml := HML.out
        have hkeep : ∀ w', Below wr.heap.size wr w' → w'.cell? ⟨b, off + k, none⟩ = some (.int .i64 q) := fun w' hw => (hw.cell (p := ⟨b, _, none⟩) hbl).trans h0
        have HK := Lib.hid hkeep
        by_cases hF : Freed (gAt xs) free (must (gAt xs) free (ps.take k)) q
        · have HMN := Lib.hid (must_yes HA.out hf0 hx hF)
          have HF := Lib.hid hF
          clear hF hx hd hkeep
          generalize must (gAt xs) free (ps.take k) = mk at *
          generalize hgl : mk.length = ml at *
          have HGL := Lib.hid hgl
          clear hgl
          go_wp2_with fail
          refine (l8Freed_any _ _ _ _ _ _ _ _ _ _ _ (H.out.below HR.out) HS2.out (by omega) (by omega) HW.out.1.1 hq1' HIM.out).mono ?_
          intro e w4 hp
          obtain ⟨rfl, hb4⟩ := hp.yes HF.out
          have HB4 := Lib.hid hb4
          clear hp hb4
          go_wp2
          go_roundw
          case rel => exact ⟨k + 1, by omega, by go_num, by rw [HMN.out]; exact HO.out.below HB4.out (Nat.le_refl _), HP.out.below HB4.out (Nat.le_refl _), HS.out, below_trans HR.out HB4.out⟩
          case measure => simp [intOf]; omega
        · have HMN := Lib.hid (must_no HA.out hf0 hx hF)
          have HF := Lib.hid hF
          clear hF hx hd hkeep
          generalize must (gAt xs) free (ps.take k) = mk at *
          generalize hgl : mk.length = ml at *
          have HGL := Lib.hid hgl
          clear hgl
          go_wp2_with fail
          refine (l8Freed_any _ _ _ _ _ _ _ _ _ _ _ (H.out.below HR.out) HS2.out (by omega) (by omega) HW.out.1.1 hq1' HIM.out).mono ?_
          intro e w4 hp
          obtain ⟨rfl, hb4⟩ := hp.no HF.out
          have HB4 := Lib.hid hb4
          have HBW := Lib.hid (below_trans HR.out hb4)
          have HO4 := Lib.hid (HO.out.below hb4 (Nat.le_refl _))
          have HP4 := Lib.hid (HP.out.below hb4 (Nat.le_refl _))
          have hsz4 := HBW.out.size
          have hc4 := HK.out w4 hb4
          clear hp hb4
          go_wp2_with (at_builtin; refine wpList_push_at 1 8 3 encI encI_len encI_one (by omega) (q : Int) _ _ rfl rfl _ _ _ rfl Try.underlying35 info_int rfl w.heap.size _ mk rfl rfl rfl HO4.out (by rw [HGL.out]; omega) (by rw [HGL.out]; unfold maxLen; omega) hsz4 ?_; intro v' w' hown' hg' hl'; have HO' := Lib.hid hown'; have HB' := Lib.hid (below_grown HBW.out hg' HO4.out (Nat.le_refl _)); have HG' := Lib.hid hg'; have HL' := Lib.hid hl'; clear hown' hg' hl')
          go_roundw
          case rel => exact ⟨k + 1, by omega, by go_num, by rw [HMN.out]; exact HO'.out, HP4.out.apart HG'.out HS.out, sep_next HS.out HL'.out (fun j hj => by have := (HP4.out.lt j hj).2; omega), HB'.out⟩
          case measure => simp [intOf]; omega
      · have hx : ps.take k = ps := List.take_of_length_le (by have := HPQ.out; omega)
        generalize hgl : (must (gAt xs) free (ps.take k)).length = ml at *
        clear hgl
        rw [hx] at HO
        clear hx HML HS2
        go_wp2
        go_ret2
        exact ⟨_, rfl, HO.out, HR.out⟩
  · have HW := Lib.hid hW
    clear hW
    go_enter Try.func19, Try.ntmps19
    go_wp2_with fail
    refine (l8Ok_any A len cap xs free f t _ (H.out.alloc _) (by omega)).mono ?_
    intro e w1 hp
    obtain ⟨rfl, hb1⟩ := hp.no HW.out
    have HB1 := Lib.hid (below_trans (below_alloc (Below.refl _ w) _) hb1)
    have HO1 := Lib.hid (OwnE.below (own_new (enc := encI) (k := 1) w 3 w.heap.size (Nat.le_refl _) encI_len [] #[] rfl (by simp) rfl) hb1 (Nat.le_refl _))
    clear hb1 hp
    go_wp2
    go_ret2
    exact ⟨_, rfl, HO1.out, HB1.out⟩

set_option maxRecDepth 20000 in
set_option maxHeartbeats 3200000 in
theorem implTollMust_any (A : Option Addr) (len cap : Nat) (xs : List T3) (free f t : Int) (ys : List Int) (bb : Bool) (w : World) (h : SlE 3 enc3 w A len xs) (hn : len ≤ 1048576) (hy : MustIs xs free f t ys bb) :
    Calls Try.prog 18 #[.slice A len cap, .int .i64 free, .int .i64 f, .int .i64 t] w (RetOwnB 1 encI 3 ys bb w) := by
  have H := Lib.hid h
  have HXL := Lib.hid h.len
  clear h
  rcases hy with ⟨rfl, hW, rfl⟩ | ⟨rfl, hW, rfl⟩
  · have HW := Lib.hid hW
    have hf0 := hW.2.1
    have hf1 := hW.2.2
    have HA := Lib.hid (idxIf_asc (f := inW f t) hW.1.1)
    have HI := Lib.hid (way_idx (f := inW f t) hW.1.1 HXL.out)
    have hpl := Nat.le_trans (idxIf_len (inW f t) xs) (Nat.le_of_eq HXL.out)
    clear hW
    go_enter Try.func18, Try.ntmps18
    go_wp2_with fail
    refine (tollsValid_any A len cap xs free f t _ (H.out.alloc _) (by omega)).mono ?_
    intro e w1 hp
    obtain ⟨rfl, hb1⟩ := hp.yes HW.out
    have HB1 := Lib.hid (below_trans (below_alloc (Below.refl _ w) _) hb1)
    have HO1 := Lib.hid (OwnE.below (own_new (enc := encI) (k := 1) w 3 w.heap.size (Nat.le_refl _) encI_len [] #[] rfl (by simp) rfl) hb1 (Nat.le_refl _))
    have hz1 : w.heap.size + 1 ≤ w1.heap.size := by have := hb1.size; simpa using this
    clear hb1 hp
    go_wp2_with fail
    refine (newTickets_any w1).mono ?_
    rintro e w2 ⟨rfl, ht2, hb2, hz2⟩
    have HB2 := Lib.hid (below_trans HB1.out hb2)
    have HO2 := Lib.hid (HO1.out.below hb2 (Nat.le_refl _))
    generalize w1.heap.size = T at *
    have HT2 := Lib.hid ht2
    clear ht2 hb2
    go_wp2_with fail
    refine (implGatesPassed_any A len cap xs f t _ w2 (H.out.below HB2.out) (by omega) (.inl ⟨HW.out.1, rfl⟩)).mono ?_
    generalize idxIf (inW f t) xs = ps at *
    rintro e w3 ⟨v, rfl, hown, hb3⟩
    obtain ⟨A1, c1, rfl, hs1⟩ := hown.sl encI_len
    have HP3 := Lib.hid (hown.base_le (base' := T + 1) hz2)
    have HB3 := Lib.hid (below_trans HB2.out hb3)
    have HO3 := Lib.hid (HO2.out.below hb3 (Nat.le_refl _))
    have HT3 := Lib.hid (HT2.out.below hb3 (Nat.le_refl _))
    clear hown hb3 hs1
    generalize hpq : ps.length = pl at *
    have HPQ := Lib.hid hpq
    clear hpq
    have HS0 := Lib.hid (show tk (gAt xs) free (must (gAt xs) free (ps.take 0)) = fun _ => -1 by funext s; simp [tk, must])
    have HSP := Lib.hid (sep_start (n := 0) (c := 0) (fun j hj => by have := (HP3.out.lt j hj).1; omega : ∀ j, (Value.slice A1 pl c1).ownBlock = some j → w.heap.size < j))
    have HST := Lib.hid (sep_start (n := 0) (c := 0) (fun j hj => by have hj : some T = some j := hj; injection hj with hj; omega : ∀ j, (Value.slice (some ⟨T, 0, none⟩) 4 4).ownBlock = some j → w.heap.size < j))
    go_wp2_with fail
    go_loopw [28, 10, 13] (fun j s _ wr => ∃ k : Nat, k ≤ pl ∧ j = .int .i64 k ∧ OwnE 1 encI 3 w.heap.size wr s (must (gAt xs) free (ps.take k)) ∧ OwnE 1 encI 3 (T + 1) wr (.slice A1 pl c1) ps ∧ Sep s (.slice A1 pl c1) ∧ TkAt T wr T (tk (gAt xs) free (must (gAt xs) free (ps.take k))) ∧ Sep s (.slice (some ⟨T, 0, none⟩) 4 4) ∧ Below w.heap.size w wr) (fun j _ _ _ => pl - (intOf j).toNat)
    case atStart => exact ⟨0, by omega, rfl, HO3.out, HP3.out, HSP.out, by rw [HS0.out]; exact HT3.out, HST.out, HB3.out⟩
    case round =>
      obtain ⟨k, hk, rfl, hown, hpas, hsep, htk, hst, hbr⟩ := hrel
      have HML := Lib.hid (show (must (gAt xs) free (ps.take k)).length ≤ k from must_len ps k (by rw [HPQ.out]; exact hk))
      have HO := Lib.hid hown
      have HP := Lib.hid hpas
      have HS := Lib.hid hsep
      have HR := Lib.hid hbr
      have HT := Lib.hid htk
      have HSTk := Lib.hid hst
      have hsz := hbr.size
      have hTl := htk.lt.2
      clear hown hpas hsep hbr htk hst
      by_cases hlt : k < pl
      · obtain ⟨b, off, q, rfl, hbl, hx, hd, h0⟩ := at1 (sl_of_own_at encI_len HP.out HPQ.out) (Below.refl _ wr) hlt
        obtain ⟨hq0, hq1⟩ := HI.out q (mem_at hx)
        obtain ⟨q, rfl⟩ : ∃ n : Nat, q = n := ⟨q.toNat, by omega⟩
        have hq1' : q < len := by omega
        obtain ⟨b1, off1, x, y, z, rfl, hbl1, hx1, hd1, g0, g1, g2⟩ := at3 H.out HR.out hq1'
        have hgq := HW.out.1.1.2 q _ hx1
        unfold GOk at hgq
        simp only at hgq
        obtain ⟨hxa, hxb⟩ : 0 ≤ x ∧ x ≤ 999 := ⟨by omega, by omega⟩
        obtain ⟨y, rfl⟩ : ∃ n : Nat, y = n := ⟨y.toNat, by omega⟩
        have hy4 : y < 4 := by omega
        have HQ := Lib.hid (gAt_at hx1)
        have hml := HML.out
        have hfr := ahead_tk HA.out hf0 (must_sub (g := gAt xs) (free := free) ps k (by rw [HPQ.out]; exact hk)) hx
        rw [HQ.out] at hfr
        have hk3 : ∀ w', Below wr.heap.size wr w' → w'.cell? ⟨b1, off1 + q * 3, none⟩ = some (.int .i64 x) ∧ w'.cell? ⟨b1, off1 + q * 3 + 1, none⟩ = some (.int .i64 y) ∧ w'.cell? ⟨b1, off1 + q * 3 + 2, none⟩ = some (.int .i64 z) := fun w' hw => ⟨(hw.cell (p := ⟨b1, _, none⟩) hbl1).trans g0, (hw.cell (p := ⟨b1, _, none⟩) hbl1).trans g1, (hw.cell (p := ⟨b1, _, none⟩) hbl1).trans g2⟩
        have HK3 := Lib.hid hk3
        have HFC := Lib.hid (fun W hW => frees_any T T (tk (gAt xs) free (must (gAt xs) free (ps.take k))) x z y W hW hy4)
        by_cases hF : Freed (gAt xs) free (must (gAt xs) free (ps.take k)) q
        · have HMN := Lib.hid (must_yes HA.out hf0 hx hF)
          have HFY := Lib.hid (hfr.2 hF)
          clear hF hfr hx hd hx1 hd1 hgq hk3
          generalize must (gAt xs) free (ps.take k) = mk at *
          go_wp2_with fail
          refine (HFC.out wr HT.out).mono ?_
          intro e w4 hp
          obtain ⟨rfl, hb4⟩ := hp.yes HFY.out
          have HB4 := Lib.hid hb4
          clear hp hb4
          go_wp2
          go_roundw
          case rel => exact ⟨k + 1, by omega, by go_num, by rw [HMN.out]; exact HO.out.below HB4.out (Nat.le_refl _), HP.out.below HB4.out (Nat.le_refl _), HS.out, by rw [HMN.out]; exact HT.out.below HB4.out (Nat.le_refl _), HSTk.out, below_trans HR.out HB4.out⟩
          case measure => simp [intOf]; omega
        · have HMN := Lib.hid (must_no HA.out hf0 hx hF)
          have HFY := Lib.hid (fun h => hF (hfr.1 h))
          have HTS := Lib.hid (tk_snoc (g := gAt xs) (free := free) (must (gAt xs) free (ps.take k)) (q : Int))
          have HPAY := Lib.hid (fun W hW hb => pay_at T T xs free (tk (gAt xs) free (must (gAt xs) free (ps.take k))) q y x z W HQ.out hW hy4 ⟨hxa, hxb⟩ ⟨hf0, hf1⟩ hb)
          clear hF hfr hx hd hx1 hd1 hgq hk3
          generalize must (gAt xs) free (ps.take k) = mk at *
          go_wp2_with fail
          refine (HFC.out wr HT.out).mono ?_
          intro e w4 hp
          obtain ⟨rfl, hb4⟩ := hp.no HFY.out
          have HB4 := Lib.hid hb4
          have HBW := Lib.hid (below_trans HR.out hb4)
          have HO4 := Lib.hid (HO.out.below hb4 (Nat.le_refl _))
          have HP4 := Lib.hid (HP.out.below hb4 (Nat.le_refl _))
          have HT4 := Lib.hid (HT.out.below hb4 (Nat.le_refl _))
          have hsz4 := hb4.size
          obtain ⟨d0, d1, d2⟩ := HK3.out w4 hb4
          clear hp hb4
          go_wp2_with fail
          refine (HPAY.out w4 HT4.out (by omega)).mono ?_
          rintro e w5 ⟨rfl, ht5, hg5⟩
          have HT5 := Lib.hid ht5
          have HB5 := Lib.hid (HBW.out.grown hg5 HBW.out.size (fun j hj => by injection hj with hj; omega))
          have HP5 := Lib.hid (HP4.out.apart hg5 (.inr fun e => by have := (HP4.out.lt T e).1; omega))
          have HO5 := Lib.hid (HO4.out.apart hg5 (by
            rcases HSTk.out with h | h
            · cases h
            · exact .inr fun e => h e.symm))
          have hsz5 := hg5.size
          have hsz6 := HB5.out.size
          clear ht5 hg5 d0 d1 d2
          go_wp2_with (at_builtin; refine wpList_push_at 1 8 3 encI encI_len encI_one (by omega) (q : Int) _ _ rfl rfl _ _ _ rfl Try.underlying35 info_int rfl w.heap.size _ mk rfl rfl rfl HO5.out (by omega) (by unfold maxLen; omega) hsz6 ?_; intro v' w' hown' hg' hl'; have HO' := Lib.hid hown'; have HB' := Lib.hid (below_grown HB5.out hg' HO5.out (Nat.le_refl _)); have HG' := Lib.hid hg'; have HL' := Lib.hid hl'; clear hown' hg' hl')
          go_roundw
          case rel => exact ⟨k + 1, by omega, by go_num, by rw [HMN.out]; exact HO'.out, HP5.out.apart HG'.out HS.out, sep_next HS.out HL'.out (fun j hj => by have := (HP5.out.lt j hj).2; omega), by rw [HMN.out, HTS.out]; exact OwnE.apart HT5.out HG'.out HSTk.out, sep_next HSTk.out HL'.out (fun j hj => by have := (OwnE.lt HT5.out j hj).2; omega), HB'.out⟩
          case measure => simp [intOf]; omega
      · have hx : ps.take k = ps := List.take_of_length_le (by have := HPQ.out; omega)
        rw [hx] at HO
        clear hx HML
        go_wp2
        go_ret2
        exact ⟨_, rfl, HO.out, HR.out⟩
  · have HW := Lib.hid hW
    clear hW
    go_enter Try.func18, Try.ntmps18
    go_wp2_with fail
    refine (tollsValid_any A len cap xs free f t _ (H.out.alloc _) (by omega)).mono ?_
    intro e w1 hp
    obtain ⟨rfl, hb1⟩ := hp.no HW.out
    have HB1 := Lib.hid (below_trans (below_alloc (Below.refl _ w) _) hb1)
    have HO1 := Lib.hid (OwnE.below (own_new (enc := encI) (k := 1) w 3 w.heap.size (Nat.le_refl _) encI_len [] #[] rfl (by simp) rfl) hb1 (Nat.le_refl _))
    clear hb1 hp
    go_wp2
    go_ret2
    exact ⟨_, rfl, HO1.out, HB1.out⟩
end Go.Proofs.Ytngbpdijempkpaa
