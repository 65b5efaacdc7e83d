/- Texts of mine in one: QWalkI. -/
import Derived.Test.YtgjllminidlolaaGreatDoorVAW
/- Contracts: the other lines of the reference that change the state; lines that ask. -/
set_option linter.unusedVariables false
namespace Go.Proofs.YtgjllminidlolaaGreatDoor
open Go.RowKit

section
variable (Ar : Option Addr) (nr cr : Nat) (An : Option Addr) (nn cn : Nat) (Ab : Option Addr) (nb cb : Nat) (s : LSt) (B : Option Addr) (n c : Nat)
set_option maxRecDepth 20000 in
set_option maxHeartbeats 6400000 in
theorem l10Line_close (x y : List UInt8) (ys : List T3) (ok : Bool) (s' : LSt) (t : List UInt8) (w : World) (hR : SlE 3 enc3 w Ar nr s.roads) (hNt : NetS w An nn s.net) (hB : SlE 3 encB w Ab nb s.list) (hok : StOk s) (hrc : nr ≤ cr) (hw : SlE 1 encS w B n (([99, 108, 111, 115, 101] :: [x, y]).map bs))
    (hb : CloseOf 6 s.roads (numL x) (numL y) ok ys)
    (ht : (ok = true ∧ s' = { s with roads := ys } ∧ t = [111, 107, 10]) ∨ (ok = false ∧ s' = s ∧ t = [110, 111, 10])) :
    Calls Tryz.prog 40 #[.agg #[.slice Ar nr cr, .slice An nn cn, .slice Ab nb cb], .slice B n c] w (LineRet Ar An Ab s s' t w) := by
  obtain rfl : n = 3 := by rw [← hw.len]; simp
  obtain ⟨b, off, wx, rfl, hbl, hx, -, g0⟩ := atS hw (Below.refl _ _) (show 0 < 3 by omega)
  obtain rfl : wx = ⟨#[99, 108, 111, 115, 101]⟩ := (Option.some.inj hx).symm
  have hr16 := hok.1.2.2.1
  rw [hR.len] at hr16
  rw [Nat.add_zero] at g0
  obtain ⟨W1, hW1⟩ : ∃ W1, (w.alloc (.cells #[.slice Ar nr cr, .slice An nn cn, .slice Ab nb cb] 66)).alloc (.cells #[.slice none 0 0, .slice none 0 0, .slice none 0 0] 66) = W1 := ⟨_, rfl⟩
  have hs0 : (w.alloc (.cells #[.slice Ar nr cr, .slice An nn cn, .slice Ab nb cb] 66)).heap.size = w.heap.size + 1 := by simp
  have B1 := Lib.hid (show Below w.heap.size w W1 by rw [← hW1]; exact below_alloc (below_alloc (Below.refl w.heap.size w) _) _)
  have X0 := Lib.hid (show BoxAt W1 w.heap.size (.slice Ar nr cr) (.slice An nn cn) (.slice Ab nb cb) by rw [← hW1]; exact (box_new w _ _ _ _).below (below_alloc (Below.refl _ _) _))
  have X4 := Lib.hid (show BoxAt W1 (w.heap.size + 1) (.slice none 0 0) (.slice none 0 0) (.slice none 0 0) by rw [← hW1]; exact box_at _ _ _ _ _ hs0.symm)
  have G1 := Lib.hid (cell_below B1.out g0)
  have HNM := Lib.hid (l10Numbers_any (some ⟨b, off, none⟩) 3 c [99, 108, 111, 115, 101] [x, y] W1 (hw.below B1.out) (by omega))
  have HRD := Lib.hid hR
  have HNT := Lib.hid hNt
  have HBK := Lib.hid hB
  have HBB := Lib.hid hb
  have HRC := Lib.hid hrc
  have HTT := Lib.hid ht
  have HLR := Lib.hid (And.intro hR.len (And.intro hNt.len hB.len))
  clear hR hNt hB hw hx g0 hs0 hb hrc ht
  go_enter Tryz.func40, Tryz.ntmps40
  go_wp2_with fail
  clear hW1
  refine HNM.out.mono ?_
  rintro e w2 ⟨v, rfl, hown, hb2⟩
  obtain ⟨A2, c2, rfl, hsl2, -⟩ := hown.slc encI_len (n := 2) (by simp)
  have Y0 := Lib.hid (X0.out.below hb2)
  have Y4 := Lib.hid (X4.out.below hb2)
  have B2 := Lib.hid (below_trans B1.out hb2)
  have G2 := Lib.hid (cell_below hb2 G1.out)
  obtain ⟨bb, of2, rfl, hbl2, n0, n1⟩ := num2 hsl2
  clear hown hb2 hsl2 X0 X4 B1 G1 HNM
  obtain ⟨W3, hW3⟩ : ∃ W3, w2.alloc (.cells #[.slice Ar nr cr, .slice An nn cn, .slice Ab nb cb] 66) = W3 := ⟨_, rfl⟩
  have bw3 : Below w2.heap.size w2 W3 := by rw [← hW3]; exact below_alloc (Below.refl w2.heap.size w2) _
  have Z0 := Lib.hid (Y0.out.below bw3)
  have Z4 := Lib.hid (Y4.out.below bw3)
  have Z7 := Lib.hid (show BoxAt W3 w2.heap.size (.slice Ar nr cr) (.slice An nn cn) (.slice Ab nb cb) by rw [← hW3]; exact box_new w2 _ _ _ _)
  have B3 := Lib.hid (below_trans B2.out bw3)
  have G3 := Lib.hid (cell_below bw3 G2.out)
  have N3 := Lib.hid (cells2_below bw3 ⟨n0, n1⟩)
  have HSZ := Lib.hid (show w.heap.size + 1 < w2.heap.size ∧ w2.heap.size < W3.heap.size from ⟨Y4.out.lt, Z7.out.lt⟩)
  obtain ⟨k0, k1, k2, kf, -⟩ := Y0.out
  have g2 := G2.out
  have g3 := G3.out
  have HBB2 := Lib.hid hbl2
  clear n0 n1 bw3 hbl hbl2
  have HCALL := Lib.hid (fun W (hW : Below w.heap.size w W) => specRoadsClose_any Ar 6 (numL x) (numL y) nr cr s.roads ys ok W (HRD.out.below hW) HRC.out (by omega) (by omega) (by omega) HBB.out)
  generalize numL x = nx at *
  generalize numL y = ny at *
  go_upto_region 8 with (fail)
  clear hW3 g2 g3 k0 k1 k2 kf
  have HS0 := Lib.hid (show W3.drew.cell? ⟨w.heap.size, 0, none⟩ = some (.slice Ar nr cr) ∧ W3.drew.cell? ⟨bb, of2, none⟩ = some (.int .i64 nx) ∧ W3.drew.cell? ⟨bb, of2 + 1, none⟩ = some (.int .i64 ny) from ⟨Z0.out.c0, N3.out⟩)
  have HNE := Lib.hid (show w2.heap.size ≠ w.heap.size ∧ w2.heap.size ≠ bb ∧ w2.heap.size ≠ w.heap.size + 1 from ⟨by have := HSZ.out; omega, by have := HBB2.out; omega, by have := HSZ.out; omega⟩)
  go_region_held3 (fun w' => w'.cell? ⟨w.heap.size, 0, none⟩ = some (.slice Ar nr cr) ∧ w'.cell? ⟨bb, of2, none⟩ = some (.int .i64 nx) ∧ w'.cell? ⟨bb, of2 + 1, none⟩ = some (.int .i64 ny))
    (first | exact HS0.out | exact CZ4.out | exact CZ5.out | fail)
    (first
      | (go_at_call 74; (with_reducible_and_instances refine (HCALL.out _ (below_drew B3.out)).mono ?_); rintro e w4 ⟨v, rfl, hown, hb4⟩; obtain ⟨m4, hm4⟩ : ∃ m4, ys.length = m4 := ⟨_, rfl⟩; obtain ⟨A4, c4, rfl, -, hcap4⟩ := hown.slc enc3_len hm4; have HO4 := Lib.hid hown; have HM4 := Lib.hid hm4; have HCAP4 := Lib.hid hcap4; have U0 := Lib.hid (Z0.out.below (Below.trans (below_drew (Below.refl _ W3)) hb4)); have U4 := Lib.hid (Z4.out.below (Below.trans (below_drew (Below.refl _ W3)) hb4)); have U7 := Lib.hid (Z7.out.below (Below.trans (below_drew (Below.refl _ W3)) hb4)); have B4 := Lib.hid (below_trans (below_drew B3.out) hb4); have CZ4 := Lib.hid (cells3_below hb4 HS0.out); have CZ5 := Lib.hid (show (w4.setCell ⟨w2.heap.size, 0, none⟩ (.slice A4 m4 c4)).cell? ⟨w.heap.size, 0, none⟩ = some (.slice Ar nr cr) ∧ (w4.setCell ⟨w2.heap.size, 0, none⟩ (.slice A4 m4 c4)).cell? ⟨bb, of2, none⟩ = some (.int .i64 nx) ∧ (w4.setCell ⟨w2.heap.size, 0, none⟩ (.slice A4 m4 c4)).cell? ⟨bb, of2 + 1, none⟩ = some (.int .i64 ny) from ⟨put_other HNE.out.1 CZ4.out.1, put_other HNE.out.2.1 CZ4.out.2.1, put_other HNE.out.2.1 CZ4.out.2.2⟩); obtain ⟨q0, q1, q2, qf, -⟩ := U7.out; clear hown hb4 hm4 hcap4)
      | fail)
  have V0 := Lib.hid (U0.out.put (i := 0) (u := .slice A4 m4 c4) HNE.out.1)
  have V4 := Lib.hid (U4.out.put (i := 0) (u := .slice A4 m4 c4) HNE.out.2.2)
  have V7 := Lib.hid (U7.out.put0 (.slice A4 m4 c4))
  have B5 := Lib.hid (B4.out.setCell (p := ⟨w2.heap.size, 0, none⟩) (show w.heap.size ≤ w2.heap.size by have := HSZ.out; omega) (.slice A4 m4 c4))
  have O5 := Lib.hid (own_put HO4.out (R := w2.heap.size) (i := 0) (show w2.heap.size < W3.drew.heap.size from HSZ.out.2) (.slice A4 m4 c4))
  clear q0 q1 q2 qf CZ4 CZ5 HS0 U0 U4 U7 HO4 B4
  generalize w4.setCell ⟨w2.heap.size, 0, none⟩ (.slice A4 m4 c4) = w5 at *
  obtain ⟨k0, k1, k2, -, -⟩ := V0.out
  obtain ⟨r0, r1, r2, rf, -⟩ := V4.out
  obtain ⟨q0, q1, q2, -, -⟩ := V7.out
  have HR4 := Lib.hid (show w.heap.size + 1 < W3.drew.heap.size by have := HSZ.out; exact Nat.lt_trans this.1 this.2)
  rcases HTT.out with ⟨rfl, rfl, rfl⟩ | ⟨rfl, rfl, rfl⟩
  · have BF := Lib.hid (box_sets B5.out (R := w.heap.size + 1) (Nat.le_succ _) (.slice A4 m4 c4) (.slice An nn cn) (.slice Ab nb cb))
    have OF := Lib.hid (own_put (own_put (own_put O5.out HR4.out (i := 0) (.slice A4 m4 c4)) HR4.out (i := 1) (.slice An nn cn)) HR4.out (i := 2) (.slice Ab nb cb))
    go_wp2_with fail
    refine bodyPost_ret (v := .tuple #[.agg #[.slice A4 m4 c4, .slice An nn cn, .slice Ab nb cb], .string ⟨#[111, 107, 10]⟩]) (by rw [results_cell_tmp rfl]; go_simp) rfl ?_
    have hl := HLR.out
    refine ⟨BF.out, A4, c4, An, cn, Ab, cb, ?_, ⟨?_, ?_, ?_, ?_⟩, ?_⟩
    · dsimp only
      rw [HM4.out, hl.2.1, hl.2.2]
      rfl
    · dsimp only
      rw [HM4.out]
      exact sl_of_own_at enc3_len OF.out HM4.out
    · dsimp only
      rw [hl.2.1]
      exact HNT.out.below BF.out
    · dsimp only
      rw [hl.2.2]
      exact HBK.out.below BF.out
    · dsimp only
      rw [HM4.out]
      exact HCAP4.out
    · exact fun R hR h => ⟨own_avoid OF.out (Nat.lt_trans hR (Nat.lt_trans (Nat.lt_succ_self _) HR4.out)), h.b, h.n.below BF.out⟩
  · have BF := Lib.hid (box_sets B5.out (R := w.heap.size + 1) (Nat.le_succ _) (.slice Ar nr cr) (.slice An nn cn) (.slice Ab nb cb))
    go_wp2_with fail
    refine bodyPost_ret (v := .tuple #[.agg #[.slice Ar nr cr, .slice An nn cn, .slice Ab nb cb], .string ⟨#[110, 111, 10]⟩]) (by rw [results_cell_tmp rfl]; go_simp) rfl ?_
    have hl := HLR.out
    refine ⟨BF.out, Ar, cr, An, cn, Ab, cb, ?_, ⟨?_, ?_, ?_, ?_⟩, ?_⟩
    · rw [hl.1, hl.2.1, hl.2.2]
      rfl
    · rw [hl.1]
      exact HRD.out.below BF.out
    · rw [hl.2.1]
      exact HNT.out.below BF.out
    · rw [hl.2.2]
      exact HBK.out.below BF.out
    · rw [hl.1]
      exact HRC.out
    · exact fun R hR h => h.below BF.out
set_option maxRecDepth 20000 in
set_option maxHeartbeats 6400000 in
theorem l10Line_inside (x y : List UInt8) (ys : List B3) (ok : Bool) (s' : LSt) (t : List UInt8) (w : World) (hR : SlE 3 enc3 w Ar nr s.roads) (hNt : NetS w An nn s.net) (hB : SlE 3 encB w Ab nb s.list) (hok : StOk s) (hrc : nr ≤ cr) (hw : SlE 1 encS w B n (([105, 110, 115, 105, 100, 101] :: [x, y]).map bs))
    (hb : (ok = true ∧ BJoinOk 5 s.list [⟨numL x, numL y, true⟩] ∧ ys = s.list ++ [⟨numL x, numL y, true⟩]) ∨ (ok = false ∧ ¬ BJoinOk 5 s.list [⟨numL x, numL y, true⟩] ∧ ys = []))
    (ht : (ok = true ∧ s' = { s with list := ys } ∧ t = [111, 107, 10]) ∨ (ok = false ∧ s' = s ∧ t = [110, 111, 10])) :
    Calls Tryz.prog 40 #[.agg #[.slice Ar nr cr, .slice An nn cn, .slice Ab nb cb], .slice B n c] w (LineRet Ar An Ab s s' t w) := by
  obtain rfl : n = 3 := by rw [← hw.len]; simp
  obtain ⟨b, off, wx, rfl, hbl, hx, -, g0⟩ := atS hw (Below.refl _ _) (show 0 < 3 by omega)
  obtain rfl : wx = ⟨#[105, 110, 115, 105, 100, 101]⟩ := (Option.some.inj hx).symm
  have hb16 := hok.2.2.2.2.1
  rw [hB.len] at hb16
  rw [Nat.add_zero] at g0
  have HBL0 := Lib.hid hbl
  obtain ⟨W1, hW1⟩ : ∃ W1, (w.alloc (.cells #[.slice Ar nr cr, .slice An nn cn, .slice Ab nb cb] 66)).alloc (.cells #[.slice none 0 0, .slice none 0 0, .slice none 0 0] 66) = W1 := ⟨_, rfl⟩
  have hs0 : (w.alloc (.cells #[.slice Ar nr cr, .slice An nn cn, .slice Ab nb cb] 66)).heap.size = w.heap.size + 1 := by simp
  have B1 := Lib.hid (show Below w.heap.size w W1 by rw [← hW1]; exact below_alloc (below_alloc (Below.refl w.heap.size w) _) _)
  have X0 := Lib.hid (show BoxAt W1 w.heap.size (.slice Ar nr cr) (.slice An nn cn) (.slice Ab nb cb) by rw [← hW1]; exact (box_new w _ _ _ _).below (below_alloc (Below.refl _ _) _))
  have X4 := Lib.hid (show BoxAt W1 (w.heap.size + 1) (.slice none 0 0) (.slice none 0 0) (.slice none 0 0) by rw [← hW1]; exact box_at _ _ _ _ _ hs0.symm)
  have G1 := Lib.hid (cell_below B1.out g0)
  have HNM := Lib.hid (l10Numbers_any (some ⟨b, off, none⟩) 3 c [105, 110, 115, 105, 100, 101] [x, y] W1 (hw.below B1.out) (by omega))
  have HRD := Lib.hid hR
  have HNT := Lib.hid hNt
  have HBK := Lib.hid hB
  have HBB := Lib.hid hb
  have HRC := Lib.hid hrc
  have HTT := Lib.hid ht
  have HLR := Lib.hid (And.intro hR.len (And.intro hNt.len hB.len))
  clear hR hNt hB hw hx g0 hs0 hb hrc ht
  go_enter Tryz.func40, Tryz.ntmps40
  go_wp2_with fail
  clear hW1
  refine HNM.out.mono ?_
  rintro e w2 ⟨v, rfl, hown, hb2⟩
  obtain ⟨A2, c2, rfl, hsl2, -⟩ := hown.slc encI_len (n := 2) (by simp)
  have Y0 := Lib.hid (X0.out.below hb2)
  have Y4 := Lib.hid (X4.out.below hb2)
  have B2 := Lib.hid (below_trans B1.out hb2)
  have G2 := Lib.hid (cell_below hb2 G1.out)
  obtain ⟨bb, of2, rfl, hbl2, n0, n1⟩ := num2 hsl2
  clear hown hb2 hsl2 X0 X4 B1 G1 HNM
  obtain ⟨W3, hW3⟩ : ∃ W3, w2.alloc (.cells #[.slice Ar nr cr, .slice An nn cn, .slice Ab nb cb] 66) = W3 := ⟨_, rfl⟩
  have bw3 : Below w2.heap.size w2 W3 := by rw [← hW3]; exact below_alloc (Below.refl w2.heap.size w2) _
  have Z0 := Lib.hid (Y0.out.below bw3)
  have Z4 := Lib.hid (Y4.out.below bw3)
  have Z7 := Lib.hid (show BoxAt W3 w2.heap.size (.slice Ar nr cr) (.slice An nn cn) (.slice Ab nb cb) by rw [← hW3]; exact box_new w2 _ _ _ _)
  have B3 := Lib.hid (below_trans B2.out bw3)
  have G3 := Lib.hid (cell_below bw3 G2.out)
  have N3 := Lib.hid (cells3_below bw3 ⟨n0, n1, G2.out⟩)
  have HSZ := Lib.hid (show w.heap.size + 1 < w2.heap.size ∧ w2.heap.size < W3.heap.size from ⟨Y4.out.lt, Z7.out.lt⟩)
  obtain ⟨k0, k1, k2, kf, -⟩ := Y0.out
  have g2 := G2.out
  have g3 := G3.out
  have HBB2 := Lib.hid hbl2
  clear n0 n1 bw3 hbl hbl2
  have HCALL := Lib.hid (fun W (hW : Below w.heap.size w W) => specSeatsBook_any Ab 5 nb cb s.list (numL x) (numL y) true ys ok W (HBK.out.below hW) (by omega) HBB.out)
  generalize numL x = nx at *
  generalize numL y = ny at *
  go_upto_region 12 with (fail)
  clear hW3 g2 g3 k0 k1 k2 kf
  have HS0 := Lib.hid (show W3.drew.cell? ⟨w.heap.size, 2, none⟩ = some (.slice Ab nb cb) ∧ W3.drew.cell? ⟨bb, of2, none⟩ = some (.int .i64 nx) ∧ W3.drew.cell? ⟨bb, of2 + 1, none⟩ = some (.int .i64 ny) ∧ W3.drew.cell? ⟨b, off, none⟩ = some (.string ⟨#[105, 110, 115, 105, 100, 101]⟩) from ⟨Z0.out.c2, N3.out⟩)
  have HNE := Lib.hid (show w2.heap.size ≠ w.heap.size ∧ w2.heap.size ≠ bb ∧ w2.heap.size ≠ w.heap.size + 1 ∧ w2.heap.size ≠ b from ⟨by have := HSZ.out; omega, by have := HBB2.out; omega, by have := HSZ.out; omega, by have := HSZ.out; have := HBL0.out; omega⟩)
  go_region_held3 (fun w' => w'.cell? ⟨w.heap.size, 2, none⟩ = some (.slice Ab nb cb) ∧ w'.cell? ⟨bb, of2, none⟩ = some (.int .i64 nx) ∧ w'.cell? ⟨bb, of2 + 1, none⟩ = some (.int .i64 ny) ∧ w'.cell? ⟨b, off, none⟩ = some (.string ⟨#[105, 110, 115, 105, 100, 101]⟩))
    (first | exact HS0.out | exact CZ4.out | exact CZ5.out | fail)
    (first
      | (go_at_call 76; (with_reducible_and_instances refine (HCALL.out _ (below_drew B3.out)).mono ?_); rintro e w4 ⟨v, rfl, hown, hb4⟩; obtain ⟨m4, hm4⟩ : ∃ m4, ys.length = m4 := ⟨_, rfl⟩; obtain ⟨A4, c4, rfl, -, hcap4⟩ := hown.slc encB_len hm4; have HO4 := Lib.hid hown; have HM4 := Lib.hid hm4; have HCAP4 := Lib.hid hcap4; have U0 := Lib.hid (Z0.out.below (Below.trans (below_drew (Below.refl _ W3)) hb4)); have U4 := Lib.hid (Z4.out.below (Below.trans (below_drew (Below.refl _ W3)) hb4)); have U7 := Lib.hid (Z7.out.below (Below.trans (below_drew (Below.refl _ W3)) hb4)); have B4 := Lib.hid (below_trans (below_drew B3.out) hb4); have CZ4 := Lib.hid (cells4_below hb4 HS0.out); have CZ5 := Lib.hid (show (w4.setCell ⟨w2.heap.size, 2, none⟩ (.slice A4 m4 c4)).cell? ⟨w.heap.size, 2, none⟩ = some (.slice Ab nb cb) ∧ (w4.setCell ⟨w2.heap.size, 2, none⟩ (.slice A4 m4 c4)).cell? ⟨bb, of2, none⟩ = some (.int .i64 nx) ∧ (w4.setCell ⟨w2.heap.size, 2, none⟩ (.slice A4 m4 c4)).cell? ⟨bb, of2 + 1, none⟩ = some (.int .i64 ny) ∧ (w4.setCell ⟨w2.heap.size, 2, none⟩ (.slice A4 m4 c4)).cell? ⟨b, off, none⟩ = some (.string ⟨#[105, 110, 115, 105, 100, 101]⟩) from ⟨put_other HNE.out.1 CZ4.out.1, put_other HNE.out.2.1 CZ4.out.2.1, put_other HNE.out.2.1 CZ4.out.2.2.1, put_other HNE.out.2.2.2 CZ4.out.2.2.2⟩); obtain ⟨q0, q1, q2, qf, -⟩ := U7.out; clear hown hb4 hm4 hcap4)
      | fail)
  have V0 := Lib.hid (U0.out.put (i := 2) (u := .slice A4 m4 c4) HNE.out.1)
  have V4 := Lib.hid (U4.out.put (i := 2) (u := .slice A4 m4 c4) HNE.out.2.2.1)
  have V7 := Lib.hid (U7.out.put2 (.slice A4 m4 c4))
  have B5 := Lib.hid (B4.out.setCell (p := ⟨w2.heap.size, 2, none⟩) (show w.heap.size ≤ w2.heap.size by have := HSZ.out; omega) (.slice A4 m4 c4))
  have O5 := Lib.hid (own_put HO4.out (R := w2.heap.size) (i := 2) (show w2.heap.size < W3.drew.heap.size from HSZ.out.2) (.slice A4 m4 c4))
  clear q0 q1 q2 qf CZ4 CZ5 HS0 U0 U4 U7 HO4 B4
  generalize w4.setCell ⟨w2.heap.size, 2, none⟩ (.slice A4 m4 c4) = w5 at *
  obtain ⟨k0, k1, k2, -, -⟩ := V0.out
  obtain ⟨r0, r1, r2, rf, -⟩ := V4.out
  obtain ⟨q0, q1, q2, -, -⟩ := V7.out
  have HR4 := Lib.hid (show w.heap.size + 1 < W3.drew.heap.size by have := HSZ.out; exact Nat.lt_trans this.1 this.2)
  rcases HTT.out with ⟨rfl, rfl, rfl⟩ | ⟨rfl, rfl, rfl⟩
  · have BF := Lib.hid (box_sets B5.out (R := w.heap.size + 1) (Nat.le_succ _) (.slice Ar nr cr) (.slice An nn cn) (.slice A4 m4 c4))
    have OF := Lib.hid (own_put (own_put (own_put O5.out HR4.out (i := 0) (.slice Ar nr cr)) HR4.out (i := 1) (.slice An nn cn)) HR4.out (i := 2) (.slice A4 m4 c4))
    go_wp2_with fail
    refine bodyPost_ret (v := .tuple #[.agg #[.slice Ar nr cr, .slice An nn cn, .slice A4 m4 c4], .string ⟨#[111, 107, 10]⟩]) (by rw [results_cell_tmp rfl]; go_simp) rfl ?_
    have hl := HLR.out
    refine ⟨BF.out, Ar, cr, An, cn, A4, c4, ?_, ⟨?_, ?_, ?_, ?_⟩, ?_⟩
    · dsimp only
      rw [HM4.out, hl.1, hl.2.1]
      rfl
    · dsimp only
      rw [hl.1]
      exact HRD.out.below BF.out
    · dsimp only
      rw [hl.2.1]
      exact HNT.out.below BF.out
    · dsimp only
      rw [HM4.out]
      exact sl_of_own_at encB_len OF.out HM4.out
    · dsimp only
      rw [hl.1]
      exact HRC.out
    · exact fun R hR h => ⟨h.r, own_avoid OF.out (Nat.lt_trans hR (Nat.lt_trans (Nat.lt_succ_self _) HR4.out)), h.n.below BF.out⟩
  · have BF := Lib.hid (box_sets B5.out (R := w.heap.size + 1) (Nat.le_succ _) (.slice Ar nr cr) (.slice An nn cn) (.slice Ab nb cb))
    go_wp2_with fail
    refine bodyPost_ret (v := .tuple #[.agg #[.slice Ar nr cr, .slice An nn cn, .slice Ab nb cb], .string ⟨#[110, 111, 10]⟩]) (by rw [results_cell_tmp rfl]; go_simp) rfl ?_
    have hl := HLR.out
    refine ⟨BF.out, Ar, cr, An, cn, Ab, cb, ?_, ⟨?_, ?_, ?_, ?_⟩, ?_⟩
    · rw [hl.1, hl.2.1, hl.2.2]
      rfl
    · rw [hl.1]
      exact HRD.out.below BF.out
    · rw [hl.2.1]
      exact HNT.out.below BF.out
    · rw [hl.2.2]
      exact HBK.out.below BF.out
    · rw [hl.1]
      exact HRC.out
    · exact fun R hR h => h.below BF.out
set_option maxRecDepth 20000 in
set_option maxHeartbeats 6400000 in
theorem l10Line_outside (x y : List UInt8) (ys : List B3) (ok : Bool) (s' : LSt) (t : List UInt8) (w : World) (hR : SlE 3 enc3 w Ar nr s.roads) (hNt : NetS w An nn s.net) (hB : SlE 3 encB w Ab nb s.list) (hok : StOk s) (hrc : nr ≤ cr) (hw : SlE 1 encS w B n (([111, 117, 116, 115, 105, 100, 101] :: [x, y]).map bs))
    (hb : (ok = true ∧ BJoinOk 5 s.list [⟨numL x, numL y, false⟩] ∧ ys = s.list ++ [⟨numL x, numL y, false⟩]) ∨ (ok = false ∧ ¬ BJoinOk 5 s.list [⟨numL x, numL y, false⟩] ∧ ys = []))
    (ht : (ok = true ∧ s' = { s with list := ys } ∧ t = [111, 107, 10]) ∨ (ok = false ∧ s' = s ∧ t = [110, 111, 10])) :
    Calls Tryz.prog 40 #[.agg #[.slice Ar nr cr, .slice An nn cn, .slice Ab nb cb], .slice B n c] w (LineRet Ar An Ab s s' t w) := by
  obtain rfl : n = 3 := by rw [← hw.len]; simp
  obtain ⟨b, off, wx, rfl, hbl, hx, -, g0⟩ := atS hw (Below.refl _ _) (show 0 < 3 by omega)
  obtain rfl : wx = ⟨#[111, 117, 116, 115, 105, 100, 101]⟩ := (Option.some.inj hx).symm
  have hb16 := hok.2.2.2.2.1
  rw [hB.len] at hb16
  rw [Nat.add_zero] at g0
  have HBL0 := Lib.hid hbl
  obtain ⟨W1, hW1⟩ : ∃ W1, (w.alloc (.cells #[.slice Ar nr cr, .slice An nn cn, .slice Ab nb cb] 66)).alloc (.cells #[.slice none 0 0, .slice none 0 0, .slice none 0 0] 66) = W1 := ⟨_, rfl⟩
  have hs0 : (w.alloc (.cells #[.slice Ar nr cr, .slice An nn cn, .slice Ab nb cb] 66)).heap.size = w.heap.size + 1 := by simp
  have B1 := Lib.hid (show Below w.heap.size w W1 by rw [← hW1]; exact below_alloc (below_alloc (Below.refl w.heap.size w) _) _)
  have X0 := Lib.hid (show BoxAt W1 w.heap.size (.slice Ar nr cr) (.slice An nn cn) (.slice Ab nb cb) by rw [← hW1]; exact (box_new w _ _ _ _).below (below_alloc (Below.refl _ _) _))
  have X4 := Lib.hid (show BoxAt W1 (w.heap.size + 1) (.slice none 0 0) (.slice none 0 0) (.slice none 0 0) by rw [← hW1]; exact box_at _ _ _ _ _ hs0.symm)
  have G1 := Lib.hid (cell_below B1.out g0)
  have HNM := Lib.hid (l10Numbers_any (some ⟨b, off, none⟩) 3 c [111, 117, 116, 115, 105, 100, 101] [x, y] W1 (hw.below B1.out) (by omega))
  have HRD := Lib.hid hR
  have HNT := Lib.hid hNt
  have HBK := Lib.hid hB
  have HBB := Lib.hid hb
  have HRC := Lib.hid hrc
  have HTT := Lib.hid ht
  have HLR := Lib.hid (And.intro hR.len (And.intro hNt.len hB.len))
  clear hR hNt hB hw hx g0 hs0 hb hrc ht
  go_enter Tryz.func40, Tryz.ntmps40
  go_wp2_with fail
  clear hW1
  refine HNM.out.mono ?_
  rintro e w2 ⟨v, rfl, hown, hb2⟩
  obtain ⟨A2, c2, rfl, hsl2, -⟩ := hown.slc encI_len (n := 2) (by simp)
  have Y0 := Lib.hid (X0.out.below hb2)
  have Y4 := Lib.hid (X4.out.below hb2)
  have B2 := Lib.hid (below_trans B1.out hb2)
  have G2 := Lib.hid (cell_below hb2 G1.out)
  obtain ⟨bb, of2, rfl, hbl2, n0, n1⟩ := num2 hsl2
  clear hown hb2 hsl2 X0 X4 B1 G1 HNM
  obtain ⟨W3, hW3⟩ : ∃ W3, w2.alloc (.cells #[.slice Ar nr cr, .slice An nn cn, .slice Ab nb cb] 66) = W3 := ⟨_, rfl⟩
  have bw3 : Below w2.heap.size w2 W3 := by rw [← hW3]; exact below_alloc (Below.refl w2.heap.size w2) _
  have Z0 := Lib.hid (Y0.out.below bw3)
  have Z4 := Lib.hid (Y4.out.below bw3)
  have Z7 := Lib.hid (show BoxAt W3 w2.heap.size (.slice Ar nr cr) (.slice An nn cn) (.slice Ab nb cb) by rw [← hW3]; exact box_new w2 _ _ _ _)
  have B3 := Lib.hid (below_trans B2.out bw3)
  have G3 := Lib.hid (cell_below bw3 G2.out)
  have N3 := Lib.hid (cells3_below bw3 ⟨n0, n1, G2.out⟩)
  have HSZ := Lib.hid (show w.heap.size + 1 < w2.heap.size ∧ w2.heap.size < W3.heap.size from ⟨Y4.out.lt, Z7.out.lt⟩)
  obtain ⟨k0, k1, k2, kf, -⟩ := Y0.out
  have g2 := G2.out
  have g3 := G3.out
  have HBB2 := Lib.hid hbl2
  clear n0 n1 bw3 hbl hbl2
  have HCALL := Lib.hid (fun W (hW : Below w.heap.size w W) => specSeatsBook_any Ab 5 nb cb s.list (numL x) (numL y) false ys ok W (HBK.out.below hW) (by omega) HBB.out)
  generalize numL x = nx at *
  generalize numL y = ny at *
  go_upto_region 12 with (fail)
  clear hW3 g2 g3 k0 k1 k2 kf
  have HS0 := Lib.hid (show W3.drew.cell? ⟨w.heap.size, 2, none⟩ = some (.slice Ab nb cb) ∧ W3.drew.cell? ⟨bb, of2, none⟩ = some (.int .i64 nx) ∧ W3.drew.cell? ⟨bb, of2 + 1, none⟩ = some (.int .i64 ny) ∧ W3.drew.cell? ⟨b, off, none⟩ = some (.string ⟨#[111, 117, 116, 115, 105, 100, 101]⟩) from ⟨Z0.out.c2, N3.out⟩)
  have HNE := Lib.hid (show w2.heap.size ≠ w.heap.size ∧ w2.heap.size ≠ bb ∧ w2.heap.size ≠ w.heap.size + 1 ∧ w2.heap.size ≠ b from ⟨by have := HSZ.out; omega, by have := HBB2.out; omega, by have := HSZ.out; omega, by have := HSZ.out; have := HBL0.out; omega⟩)
  go_region_held3 (fun w' => w'.cell? ⟨w.heap.size, 2, none⟩ = some (.slice Ab nb cb) ∧ w'.cell? ⟨bb, of2, none⟩ = some (.int .i64 nx) ∧ w'.cell? ⟨bb, of2 + 1, none⟩ = some (.int .i64 ny) ∧ w'.cell? ⟨b, off, none⟩ = some (.string ⟨#[111, 117, 116, 115, 105, 100, 101]⟩))
    (first | exact HS0.out | exact CZ4.out | exact CZ5.out | fail)
    (first
      | (go_at_call 76; (with_reducible_and_instances refine (HCALL.out _ (below_drew B3.out)).mono ?_); rintro e w4 ⟨v, rfl, hown, hb4⟩; obtain ⟨m4, hm4⟩ : ∃ m4, ys.length = m4 := ⟨_, rfl⟩; obtain ⟨A4, c4, rfl, -, hcap4⟩ := hown.slc encB_len hm4; have HO4 := Lib.hid hown; have HM4 := Lib.hid hm4; have HCAP4 := Lib.hid hcap4; have U0 := Lib.hid (Z0.out.below (Below.trans (below_drew (Below.refl _ W3)) hb4)); have U4 := Lib.hid (Z4.out.below (Below.trans (below_drew (Below.refl _ W3)) hb4)); have U7 := Lib.hid (Z7.out.below (Below.trans (below_drew (Below.refl _ W3)) hb4)); have B4 := Lib.hid (below_trans (below_drew B3.out) hb4); have CZ4 := Lib.hid (cells4_below hb4 HS0.out); have CZ5 := Lib.hid (show (w4.setCell ⟨w2.heap.size, 2, none⟩ (.slice A4 m4 c4)).cell? ⟨w.heap.size, 2, none⟩ = some (.slice Ab nb cb) ∧ (w4.setCell ⟨w2.heap.size, 2, none⟩ (.slice A4 m4 c4)).cell? ⟨bb, of2, none⟩ = some (.int .i64 nx) ∧ (w4.setCell ⟨w2.heap.size, 2, none⟩ (.slice A4 m4 c4)).cell? ⟨bb, of2 + 1, none⟩ = some (.int .i64 ny) ∧ (w4.setCell ⟨w2.heap.size, 2, none⟩ (.slice A4 m4 c4)).cell? ⟨b, off, none⟩ = some (.string ⟨#[111, 117, 116, 115, 105, 100, 101]⟩) from ⟨put_other HNE.out.1 CZ4.out.1, put_other HNE.out.2.1 CZ4.out.2.1, put_other HNE.out.2.1 CZ4.out.2.2.1, put_other HNE.out.2.2.2 CZ4.out.2.2.2⟩); obtain ⟨q0, q1, q2, qf, -⟩ := U7.out; clear hown hb4 hm4 hcap4)
      | fail)
  have V0 := Lib.hid (U0.out.put (i := 2) (u := .slice A4 m4 c4) HNE.out.1)
  have V4 := Lib.hid (U4.out.put (i := 2) (u := .slice A4 m4 c4) HNE.out.2.2.1)
  have V7 := Lib.hid (U7.out.put2 (.slice A4 m4 c4))
  have B5 := Lib.hid (B4.out.setCell (p := ⟨w2.heap.size, 2, none⟩) (show w.heap.size ≤ w2.heap.size by have := HSZ.out; omega) (.slice A4 m4 c4))
  have O5 := Lib.hid (own_put HO4.out (R := w2.heap.size) (i := 2) (show w2.heap.size < W3.drew.heap.size from HSZ.out.2) (.slice A4 m4 c4))
  clear q0 q1 q2 qf CZ4 CZ5 HS0 U0 U4 U7 HO4 B4
  generalize w4.setCell ⟨w2.heap.size, 2, none⟩ (.slice A4 m4 c4) = w5 at *
  obtain ⟨k0, k1, k2, -, -⟩ := V0.out
  obtain ⟨r0, r1, r2, rf, -⟩ := V4.out
  obtain ⟨q0, q1, q2, -, -⟩ := V7.out
  have HR4 := Lib.hid (show w.heap.size + 1 < W3.drew.heap.size by have := HSZ.out; exact Nat.lt_trans this.1 this.2)
  rcases HTT.out with ⟨rfl, rfl, rfl⟩ | ⟨rfl, rfl, rfl⟩
  · have BF := Lib.hid (box_sets B5.out (R := w.heap.size + 1) (Nat.le_succ _) (.slice Ar nr cr) (.slice An nn cn) (.slice A4 m4 c4))
    have OF := Lib.hid (own_put (own_put (own_put O5.out HR4.out (i := 0) (.slice Ar nr cr)) HR4.out (i := 1) (.slice An nn cn)) HR4.out (i := 2) (.slice A4 m4 c4))
    go_wp2_with fail
    refine bodyPost_ret (v := .tuple #[.agg #[.slice Ar nr cr, .slice An nn cn, .slice A4 m4 c4], .string ⟨#[111, 107, 10]⟩]) (by rw [results_cell_tmp rfl]; go_simp) rfl ?_
    have hl := HLR.out
    refine ⟨BF.out, Ar, cr, An, cn, A4, c4, ?_, ⟨?_, ?_, ?_, ?_⟩, ?_⟩
    · dsimp only
      rw [HM4.out, hl.1, hl.2.1]
      rfl
    · dsimp only
      rw [hl.1]
      exact HRD.out.below BF.out
    · dsimp only
      rw [hl.2.1]
      exact HNT.out.below BF.out
    · dsimp only
      rw [HM4.out]
      exact sl_of_own_at encB_len OF.out HM4.out
    · dsimp only
      rw [hl.1]
      exact HRC.out
    · exact fun R hR h => ⟨h.r, own_avoid OF.out (Nat.lt_trans hR (Nat.lt_trans (Nat.lt_succ_self _) HR4.out)), h.n.below BF.out⟩
  · have BF := Lib.hid (box_sets B5.out (R := w.heap.size + 1) (Nat.le_succ _) (.slice Ar nr cr) (.slice An nn cn) (.slice Ab nb cb))
    go_wp2_with fail
    refine bodyPost_ret (v := .tuple #[.agg #[.slice Ar nr cr, .slice An nn cn, .slice Ab nb cb], .string ⟨#[110, 111, 10]⟩]) (by rw [results_cell_tmp rfl]; go_simp) rfl ?_
    have hl := HLR.out
    refine ⟨BF.out, Ar, cr, An, cn, Ab, cb, ?_, ⟨?_, ?_, ?_, ?_⟩, ?_⟩
    · rw [hl.1, hl.2.1, hl.2.2]
      rfl
    · rw [hl.1]
      exact HRD.out.below BF.out
    · rw [hl.2.1]
      exact HNT.out.below BF.out
    · rw [hl.2.2]
      exact HBK.out.below BF.out
    · rw [hl.1]
      exact HRC.out
    · exact fun R hR h => h.below BF.out
set_option maxRecDepth 20000 in
set_option maxHeartbeats 6400000 in
theorem l10Line_coach (ws : List (List UInt8)) (ys : List (List T3)) (ok : Bool) (s' : LSt) (t : List UInt8) (w : World) (hR : SlE 3 enc3 w Ar nr s.roads) (hNt : NetS w An nn s.net) (hB : SlE 3 encB w Ab nb s.list) (hok : StOk s) (hrc : nr ≤ cr) (hw : SlE 1 encS w B n (([99, 111, 97, 99, 104] :: ws).map bs))
    (hm0 : 0 < ws.length ∧ ws.length % 3 = 0) (hm1 : ws.length ≤ 1000)
    (hb : (ok = true ∧ NetOk 6 (s.net ++ [tripL (ws.map numL)]) ∧ ys = s.net ++ [tripL (ws.map numL)]) ∨ (ok = false ∧ ¬ NetOk 6 (s.net ++ [tripL (ws.map numL)]) ∧ ys = []))
    (ht : (ok = true ∧ s' = { s with net := ys } ∧ t = [111, 107, 10]) ∨ (ok = false ∧ s' = s ∧ t = [110, 111, 10])) :
    Calls Tryz.prog 40 #[.agg #[.slice Ar nr cr, .slice An nn cn, .slice Ab nb cb], .slice B n c] w (LineRet Ar An Ab s s' t w) := by
  obtain ⟨m, hm⟩ : ∃ m, ws.length = m := ⟨_, rfl⟩
  obtain rfl : n = m + 1 := by rw [← hw.len, ← hm]; simp
  rw [hm] at hm0 hm1
  obtain ⟨hm0, hm3⟩ := hm0
  have i0 : (0 : Int) < (m : Int) := by omega
  have f3 : ((m : Int) % 3 == 0) = true := by
    have : (m : Int) % 3 = 0 := by omega
    simp only [beq_iff_eq]
    exact this
  have HM := Lib.hid hm
  have HM3 := Lib.hid hm3
  clear hm hm3
  obtain ⟨b, off, wx, rfl, hbl, hx, -, g0⟩ := atS hw (Below.refl _ _) (show 0 < m + 1 by omega)
  obtain rfl : wx = ⟨#[99, 111, 97, 99, 104]⟩ := (Option.some.inj hx).symm
  have hn6 := hok.2.1.2.2.1
  rw [hNt.len] at hn6
  have HNO := Lib.hid (netOk_len hok.2.1)
  rw [Nat.add_zero] at g0
  obtain ⟨W1, hW1⟩ : ∃ W1, (w.alloc (.cells #[.slice Ar nr cr, .slice An nn cn, .slice Ab nb cb] 66)).alloc (.cells #[.slice none 0 0, .slice none 0 0, .slice none 0 0] 66) = W1 := ⟨_, rfl⟩
  have hs0 : (w.alloc (.cells #[.slice Ar nr cr, .slice An nn cn, .slice Ab nb cb] 66)).heap.size = w.heap.size + 1 := by simp
  have B1 := Lib.hid (show Below w.heap.size w W1 by rw [← hW1]; exact below_alloc (below_alloc (Below.refl w.heap.size w) _) _)
  have X0 := Lib.hid (show BoxAt W1 w.heap.size (.slice Ar nr cr) (.slice An nn cn) (.slice Ab nb cb) by rw [← hW1]; exact (box_new w _ _ _ _).below (below_alloc (Below.refl _ _) _))
  have X4 := Lib.hid (show BoxAt W1 (w.heap.size + 1) (.slice none 0 0) (.slice none 0 0) (.slice none 0 0) by rw [← hW1]; exact box_at _ _ _ _ _ hs0.symm)
  have G1 := Lib.hid (cell_below B1.out g0)
  have HNM := Lib.hid (l10Numbers_any (some ⟨b, off, none⟩) (m + 1) c [99, 111, 97, 99, 104] ws W1 (hw.below B1.out) (by omega))
  have HRD := Lib.hid hR
  have HNT := Lib.hid hNt
  have HBK := Lib.hid hB
  have HBB := Lib.hid hb
  have HRC := Lib.hid hrc
  have HTT := Lib.hid ht
  have HLR := Lib.hid (And.intro hR.len (And.intro hNt.len hB.len))
  clear hR hNt hB hw hx g0 hs0 hb hrc ht
  go_enter Tryz.func40, Tryz.ntmps40
  go_wp2_with fail
  clear hW1
  refine HNM.out.mono ?_
  rintro e w2 ⟨v, rfl, hown, hb2⟩
  obtain ⟨A2, c2, rfl, hsl2, -⟩ := hown.slc encI_len (n := m) (by rw [List.length_map]; exact HM.out)
  have Y0 := Lib.hid (X0.out.below hb2)
  have Y4 := Lib.hid (X4.out.below hb2)
  have B2 := Lib.hid (below_trans B1.out hb2)
  have G2 := Lib.hid (cell_below hb2 G1.out)
  have HN2 := Lib.hid hsl2
  clear hown hb2 hsl2 X0 X4 B1 G1 HNM
  obtain ⟨W3, hW3⟩ : ∃ W3, w2.alloc (.cells #[.slice Ar nr cr, .slice An nn cn, .slice Ab nb cb] 66) = W3 := ⟨_, rfl⟩
  have bw3 : Below w2.heap.size w2 W3 := by rw [← hW3]; exact below_alloc (Below.refl w2.heap.size w2) _
  have Z0 := Lib.hid (Y0.out.below bw3)
  have Z4 := Lib.hid (Y4.out.below bw3)
  have Z7 := Lib.hid (show BoxAt W3 w2.heap.size (.slice Ar nr cr) (.slice An nn cn) (.slice Ab nb cb) by rw [← hW3]; exact box_new w2 _ _ _ _)
  have B3 := Lib.hid (below_trans B2.out bw3)
  have G3 := Lib.hid (cell_below bw3 G2.out)
  have N3 := Lib.hid (HN2.out.below bw3)
  have HSZ := Lib.hid (show w.heap.size + 1 < w2.heap.size ∧ w2.heap.size < W3.heap.size from ⟨Y4.out.lt, Z7.out.lt⟩)
  obtain ⟨k0, k1, k2, kf, -⟩ := Y0.out
  have g2 := G2.out
  have g3 := G3.out
  clear bw3 hbl
  have HCALL := Lib.hid (l10Coach_any An nn cn A2 m c2 s.net (ws.map numL) ok ys W3 (HNT.out.below B3.out) (by omega) HNO.out N3.out HM3.out hm1 HBB.out)
  obtain ⟨z0, z1, z2, -, -⟩ := Z0.out
  go_wp2_with fail
  refine HCALL.out.mono ?_
  rintro e w4 ⟨v, rfl, hnb, hb4⟩
  have HNB := Lib.hid hnb
  obtain ⟨A4, m4, c4, rfl, hm4⟩ : ∃ A m c, v = .slice A m c ∧ ys.length = m := by
    obtain ⟨A, c, h, -⟩ := HNB.out.netS
    exact ⟨A, _, c, h, rfl⟩
  have HM4 := Lib.hid hm4
  have U0 := Lib.hid (Z0.out.below hb4)
  have U4 := Lib.hid (Z4.out.below hb4)
  have U7 := Lib.hid (Z7.out.below hb4)
  have B4 := Lib.hid (below_trans B3.out hb4)
  have HNE := Lib.hid (show w2.heap.size ≠ w.heap.size ∧ w2.heap.size ≠ w.heap.size + 1 from ⟨by have := HSZ.out; omega, by have := HSZ.out; omega⟩)
  have V0 := Lib.hid (U0.out.put (i := 1) (u := .slice A4 m4 c4) HNE.out.1)
  have V4 := Lib.hid (U4.out.put (i := 1) (u := .slice A4 m4 c4) HNE.out.2)
  have V7 := Lib.hid (U7.out.put1 (.slice A4 m4 c4))
  have B5 := Lib.hid (B4.out.setCell (p := ⟨w2.heap.size, 1, none⟩) (show w.heap.size ≤ w2.heap.size by have := HSZ.out; omega) (.slice A4 m4 c4))
  have O5 := Lib.hid (netB_put HNB.out (R := w2.heap.size) (i := 1) HSZ.out.2 (.slice A4 m4 c4))
  obtain ⟨q0, q1, q2, qf, -⟩ := U7.out
  clear hnb hb4 hm4 hW3 g2 g3 k0 k1 k2 kf z0 z1 z2 HNB U0 U4 U7
  go_upto_region 13 with (fail)
  clear q0 q1 q2 qf B4
  generalize w4.setCell ⟨w2.heap.size, 1, none⟩ (.slice A4 m4 c4) = w5 at *
  obtain ⟨k0, k1, k2, -, -⟩ := V0.out
  obtain ⟨r0, r1, r2, rf, -⟩ := V4.out
  obtain ⟨q0, q1, q2, -, -⟩ := V7.out
  have HR4 := Lib.hid (show w.heap.size + 1 < W3.heap.size by have := HSZ.out; exact Nat.lt_trans this.1 this.2)
  rcases HTT.out with ⟨rfl, rfl, rfl⟩ | ⟨rfl, rfl, rfl⟩
  · have BF := Lib.hid (box_sets B5.out (R := w.heap.size + 1) (Nat.le_succ _) (.slice Ar nr cr) (.slice A4 m4 c4) (.slice Ab nb cb))
    have OF := Lib.hid (netB_put (netB_put (netB_put O5.out HR4.out (i := 0) (.slice Ar nr cr)) HR4.out (i := 1) (.slice A4 m4 c4)) HR4.out (i := 2) (.slice Ab nb cb))
    go_wp2_with fail
    refine bodyPost_ret (v := .tuple #[.agg #[.slice Ar nr cr, .slice A4 m4 c4, .slice Ab nb cb], .string ⟨#[111, 107, 10]⟩]) (by rw [results_cell_tmp rfl]; go_simp) rfl ?_
    have hl := HLR.out
    have HNA := Lib.hid (fun R (hR : R < w.heap.size) => netA_own OF.out (Nat.lt_trans hR (Nat.lt_trans (Nat.lt_succ_self _) HR4.out)))
    obtain ⟨A5, c5, he, hns, -⟩ := OF.out.netS
    rw [HM4.out] at he
    injection he with he1 he2 he3
    subst he1 he3
    refine ⟨BF.out, Ar, cr, A4, c4, Ab, cb, ?_, ⟨?_, ?_, ?_, ?_⟩, ?_⟩
    · dsimp only
      rw [HM4.out, hl.1, hl.2.2]
      rfl
    · dsimp only
      rw [hl.1]
      exact HRD.out.below BF.out
    · exact hns
    · dsimp only
      rw [hl.2.2]
      exact HBK.out.below BF.out
    · dsimp only
      rw [hl.1]
      exact HRC.out
    · exact fun R hR h => ⟨h.r, h.b, HNA.out R hR⟩
  · have BF := Lib.hid (box_sets B5.out (R := w.heap.size + 1) (Nat.le_succ _) (.slice Ar nr cr) (.slice An nn cn) (.slice Ab nb cb))
    go_wp2_with fail
    refine bodyPost_ret (v := .tuple #[.agg #[.slice Ar nr cr, .slice An nn cn, .slice Ab nb cb], .string ⟨#[110, 111, 10]⟩]) (by rw [results_cell_tmp rfl]; go_simp) rfl ?_
    have hl := HLR.out
    refine ⟨BF.out, Ar, cr, An, cn, Ab, cb, ?_, ⟨?_, ?_, ?_, ?_⟩, ?_⟩
    · rw [hl.1, hl.2.1, hl.2.2]
      rfl
    · rw [hl.1]
      exact HRD.out.below BF.out
    · rw [hl.2.1]
      exact HNT.out.below BF.out
    · rw [hl.2.2]
      exact HBK.out.below BF.out
    · rw [hl.1]
      exact HRC.out
    · exact fun R hR h => h.below BF.out
set_option maxRecDepth 20000 in
set_option maxHeartbeats 6400000 in
theorem l10Line_no_road (ws : List (List UInt8)) (hm0 : ws.length ≠ 3) (t : List UInt8) (w : World) (hR : SlE 3 enc3 w Ar nr s.roads) (hNt : NetS w An nn s.net) (hB : SlE 3 encB w Ab nb s.list) (hok : StOk s) (hrc : nr ≤ cr) (hw : SlE 1 encS w B n (([114, 111, 97, 100] :: ws).map bs))
    (hask : ∀ W, Below w.heap.size w W → Calls Tryz.prog 77 #[.agg #[.slice Ar nr cr, .slice An nn cn, .slice Ab nb cb], .slice B n c] W (Only (.string (bs t)) W)) (hn : n ≤ 1002) :
    Calls Tryz.prog 40 #[.agg #[.slice Ar nr cr, .slice An nn cn, .slice Ab nb cb], .slice B n c] w (LineRet Ar An Ab s s t w) := by
  obtain ⟨m, hm⟩ : ∃ m, ws.length = m := ⟨_, rfl⟩
  obtain rfl : n = m + 1 := by rw [← hw.len, ← hm]; simp
  have f3 : ((m : Int) == 3) = false := by rw [hm] at hm0; simp; omega
  have HM := Lib.hid hm
  obtain ⟨T1, hT1⟩ : ∃ T1, bs t = T1 := ⟨_, rfl⟩
  rw [hT1] at hask
  have HT1 := Lib.hid hT1
  clear hT1
  have HASK := Lib.hid hask
  clear hm hask hm0
  obtain ⟨b, off, wx, rfl, hbl, hx, -, g0⟩ := atS hw (Below.refl _ _) (show 0 < m + 1 by omega)
  obtain rfl : wx = ⟨#[114, 111, 97, 100]⟩ := (Option.some.inj hx).symm
  rw [Nat.add_zero] at g0
  obtain ⟨W1, hW1⟩ : ∃ W1, (w.alloc (.cells #[.slice Ar nr cr, .slice An nn cn, .slice Ab nb cb] 66)).alloc (.cells #[.slice none 0 0, .slice none 0 0, .slice none 0 0] 66) = W1 := ⟨_, rfl⟩
  have hs0 : (w.alloc (.cells #[.slice Ar nr cr, .slice An nn cn, .slice Ab nb cb] 66)).heap.size = w.heap.size + 1 := by simp
  have B1 := Lib.hid (show Below w.heap.size w W1 by rw [← hW1]; exact below_alloc (below_alloc (Below.refl w.heap.size w) _) _)
  have X0 := Lib.hid (show BoxAt W1 w.heap.size (.slice Ar nr cr) (.slice An nn cn) (.slice Ab nb cb) by rw [← hW1]; exact (box_new w _ _ _ _).below (below_alloc (Below.refl _ _) _))
  have X4 := Lib.hid (show BoxAt W1 (w.heap.size + 1) (.slice none 0 0) (.slice none 0 0) (.slice none 0 0) by rw [← hW1]; exact box_at _ _ _ _ _ hs0.symm)
  have G1 := Lib.hid (cell_below B1.out g0)
  have HNM := Lib.hid (l10Numbers_any (some ⟨b, off, none⟩) (m + 1) c [114, 111, 97, 100] ws W1 (hw.below B1.out) (by omega))
  have HRD := Lib.hid hR
  have HNT := Lib.hid hNt
  have HBK := Lib.hid hB
  have HRC := Lib.hid hrc
  have HLR := Lib.hid (And.intro hR.len (And.intro hNt.len hB.len))
  clear hR hNt hB hw hx g0 hs0 hrc
  go_enter Tryz.func40, Tryz.ntmps40
  go_wp2_with fail
  clear hW1
  refine HNM.out.mono ?_
  rintro e w2 ⟨v, rfl, hown, hb2⟩
  obtain ⟨A2, c2, rfl, hsl2, -⟩ := hown.slc encI_len (n := m) (by rw [List.length_map]; exact HM.out)
  have Y0 := Lib.hid (X0.out.below hb2)
  have Y4 := Lib.hid (X4.out.below hb2)
  have B2 := Lib.hid (below_trans B1.out hb2)
  have G2 := Lib.hid (cell_below hb2 G1.out)
  clear hown hb2 hsl2 X0 X4 B1 G1 HNM
  obtain ⟨W3, hW3⟩ : ∃ W3, w2.alloc (.cells #[.slice Ar nr cr, .slice An nn cn, .slice Ab nb cb] 66) = W3 := ⟨_, rfl⟩
  have bw3 : Below w2.heap.size w2 W3 := by rw [← hW3]; exact below_alloc (Below.refl w2.heap.size w2) _
  have Z0 := Lib.hid (Y0.out.below bw3)
  have Z4 := Lib.hid (Y4.out.below bw3)
  have Z7 := Lib.hid (show BoxAt W3 w2.heap.size (.slice Ar nr cr) (.slice An nn cn) (.slice Ab nb cb) by rw [← hW3]; exact box_new w2 _ _ _ _)
  have B3 := Lib.hid (below_trans B2.out bw3)
  have G3 := Lib.hid (cell_below bw3 G2.out)
  have HSZ := Lib.hid (show w.heap.size + 1 < w2.heap.size ∧ w2.heap.size < W3.heap.size from ⟨Y4.out.lt, Z7.out.lt⟩)
  obtain ⟨k0, k1, k2, kf, -⟩ := Y0.out
  have g2 := G2.out
  have g3 := G3.out
  clear bw3 hbl
  have HS0 := Lib.hid (show W3.drew.cell? ⟨w.heap.size, 0, none⟩ = some (.slice Ar nr cr) ∧ W3.drew.cell? ⟨w.heap.size, 1, none⟩ = some (.slice An nn cn) ∧ W3.drew.cell? ⟨w.heap.size, 2, none⟩ = some (.slice Ab nb cb) from ⟨Z0.out.c0, Z0.out.c1, Z0.out.c2⟩)
  have HR4 := Lib.hid (show w.heap.size + 1 ≠ w.heap.size by omega)
  go_upto_region 4 with (fail)
  clear hW3 g2 g3 k0 k1 k2 kf
  go_region_held3 (fun w' => w'.cell? ⟨w.heap.size, 0, none⟩ = some (.slice Ar nr cr) ∧ w'.cell? ⟨w.heap.size, 1, none⟩ = some (.slice An nn cn) ∧ w'.cell? ⟨w.heap.size, 2, none⟩ = some (.slice Ab nb cb))
    (first | exact HS0.out | exact CZ4.out | exact CZ5.out | fail)
    (first
      | (go_at_call 77; (with_reducible_and_instances refine (HASK.out _ (below_drew B3.out)).mono ?_); rintro e w4 ⟨rfl, hb4⟩; have U0 := Lib.hid (Z0.out.below (Below.trans (below_drew (Below.refl _ W3)) hb4)); have U4 := Lib.hid (Z4.out.below (Below.trans (below_drew (Below.refl _ W3)) hb4)); have BF := Lib.hid (box_sets (below_trans (below_drew B3.out) hb4) (R := w.heap.size + 1) (Nat.le_succ _) (.slice Ar nr cr) (.slice An nn cn) (.slice Ab nb cb)); have CZ4 := Lib.hid (And.intro U0.out.c0 (And.intro U0.out.c1 U0.out.c2)); have V0 := Lib.hid (((U0.out.put (i := 0) (u := .slice Ar nr cr) HR4.out).put (i := 1) (u := .slice An nn cn) HR4.out).put (i := 2) (u := .slice Ab nb cb) HR4.out); have CZ5 := Lib.hid (And.intro V0.out.c0 (And.intro V0.out.c1 V0.out.c2)); obtain ⟨r0, r1, r2, rf, -⟩ := U4.out; clear hb4)
      | fail)
  go_wp2_with fail
  refine bodyPost_ret (v := .tuple #[.agg #[.slice Ar nr cr, .slice An nn cn, .slice Ab nb cb], .string T1]) (by rw [results_cell_tmp rfl]; go_simp) rfl ?_
  have hl := HLR.out
  refine ⟨BF.out, Ar, cr, An, cn, Ab, cb, ?_, ⟨?_, ?_, ?_, ?_⟩, ?_⟩
  · rw [hl.1, hl.2.1, hl.2.2, HT1.out]
  · rw [hl.1]
    exact HRD.out.below BF.out
  · rw [hl.2.1]
    exact HNT.out.below BF.out
  · rw [hl.2.2]
    exact HBK.out.below BF.out
  · rw [hl.1]
    exact HRC.out
  · exact fun R hR h => h.below BF.out
set_option maxRecDepth 20000 in
set_option maxHeartbeats 6400000 in
theorem l10Line_no_close (ws : List (List UInt8)) (hm0 : ws.length ≠ 2) (t : List UInt8) (w : World) (hR : SlE 3 enc3 w Ar nr s.roads) (hNt : NetS w An nn s.net) (hB : SlE 3 encB w Ab nb s.list) (hok : StOk s) (hrc : nr ≤ cr) (hw : SlE 1 encS w B n (([99, 108, 111, 115, 101] :: ws).map bs))
    (hask : ∀ W, Below w.heap.size w W → Calls Tryz.prog 77 #[.agg #[.slice Ar nr cr, .slice An nn cn, .slice Ab nb cb], .slice B n c] W (Only (.string (bs t)) W)) (hn : n ≤ 1002) :
    Calls Tryz.prog 40 #[.agg #[.slice Ar nr cr, .slice An nn cn, .slice Ab nb cb], .slice B n c] w (LineRet Ar An Ab s s t w) := by
  obtain ⟨m, hm⟩ : ∃ m, ws.length = m := ⟨_, rfl⟩
  obtain rfl : n = m + 1 := by rw [← hw.len, ← hm]; simp
  have f3 : ((m : Int) == 2) = false := by rw [hm] at hm0; simp; omega
  have HM := Lib.hid hm
  obtain ⟨T1, hT1⟩ : ∃ T1, bs t = T1 := ⟨_, rfl⟩
  rw [hT1] at hask
  have HT1 := Lib.hid hT1
  clear hT1
  have HASK := Lib.hid hask
  clear hm hask hm0
  obtain ⟨b, off, wx, rfl, hbl, hx, -, g0⟩ := atS hw (Below.refl _ _) (show 0 < m + 1 by omega)
  obtain rfl : wx = ⟨#[99, 108, 111, 115, 101]⟩ := (Option.some.inj hx).symm
  rw [Nat.add_zero] at g0
  obtain ⟨W1, hW1⟩ : ∃ W1, (w.alloc (.cells #[.slice Ar nr cr, .slice An nn cn, .slice Ab nb cb] 66)).alloc (.cells #[.slice none 0 0, .slice none 0 0, .slice none 0 0] 66) = W1 := ⟨_, rfl⟩
  have hs0 : (w.alloc (.cells #[.slice Ar nr cr, .slice An nn cn, .slice Ab nb cb] 66)).heap.size = w.heap.size + 1 := by simp
  have B1 := Lib.hid (show Below w.heap.size w W1 by rw [← hW1]; exact below_alloc (below_alloc (Below.refl w.heap.size w) _) _)
  have X0 := Lib.hid (show BoxAt W1 w.heap.size (.slice Ar nr cr) (.slice An nn cn) (.slice Ab nb cb) by rw [← hW1]; exact (box_new w _ _ _ _).below (below_alloc (Below.refl _ _) _))
  have X4 := Lib.hid (show BoxAt W1 (w.heap.size + 1) (.slice none 0 0) (.slice none 0 0) (.slice none 0 0) by rw [← hW1]; exact box_at _ _ _ _ _ hs0.symm)
  have G1 := Lib.hid (cell_below B1.out g0)
  have HNM := Lib.hid (l10Numbers_any (some ⟨b, off, none⟩) (m + 1) c [99, 108, 111, 115, 101] ws W1 (hw.below B1.out) (by omega))
  have HRD := Lib.hid hR
  have HNT := Lib.hid hNt
  have HBK := Lib.hid hB
  have HRC := Lib.hid hrc
  have HLR := Lib.hid (And.intro hR.len (And.intro hNt.len hB.len))
  clear hR hNt hB hw hx g0 hs0 hrc
  go_enter Tryz.func40, Tryz.ntmps40
  go_wp2_with fail
  clear hW1
  refine HNM.out.mono ?_
  rintro e w2 ⟨v, rfl, hown, hb2⟩
  obtain ⟨A2, c2, rfl, hsl2, -⟩ := hown.slc encI_len (n := m) (by rw [List.length_map]; exact HM.out)
  have Y0 := Lib.hid (X0.out.below hb2)
  have Y4 := Lib.hid (X4.out.below hb2)
  have B2 := Lib.hid (below_trans B1.out hb2)
  have G2 := Lib.hid (cell_below hb2 G1.out)
  clear hown hb2 hsl2 X0 X4 B1 G1 HNM
  obtain ⟨W3, hW3⟩ : ∃ W3, w2.alloc (.cells #[.slice Ar nr cr, .slice An nn cn, .slice Ab nb cb] 66) = W3 := ⟨_, rfl⟩
  have bw3 : Below w2.heap.size w2 W3 := by rw [← hW3]; exact below_alloc (Below.refl w2.heap.size w2) _
  have Z0 := Lib.hid (Y0.out.below bw3)
  have Z4 := Lib.hid (Y4.out.below bw3)
  have Z7 := Lib.hid (show BoxAt W3 w2.heap.size (.slice Ar nr cr) (.slice An nn cn) (.slice Ab nb cb) by rw [← hW3]; exact box_new w2 _ _ _ _)
  have B3 := Lib.hid (below_trans B2.out bw3)
  have G3 := Lib.hid (cell_below bw3 G2.out)
  have HSZ := Lib.hid (show w.heap.size + 1 < w2.heap.size ∧ w2.heap.size < W3.heap.size from ⟨Y4.out.lt, Z7.out.lt⟩)
  obtain ⟨k0, k1, k2, kf, -⟩ := Y0.out
  have g2 := G2.out
  have g3 := G3.out
  clear bw3 hbl
  have HS0 := Lib.hid (show W3.drew.cell? ⟨w.heap.size, 0, none⟩ = some (.slice Ar nr cr) ∧ W3.drew.cell? ⟨w.heap.size, 1, none⟩ = some (.slice An nn cn) ∧ W3.drew.cell? ⟨w.heap.size, 2, none⟩ = some (.slice Ab nb cb) from ⟨Z0.out.c0, Z0.out.c1, Z0.out.c2⟩)
  have HR4 := Lib.hid (show w.heap.size + 1 ≠ w.heap.size by omega)
  go_upto_region 4 with (fail)
  clear hW3 g2 g3 k0 k1 k2 kf
  go_region_held3 (fun w' => w'.cell? ⟨w.heap.size, 0, none⟩ = some (.slice Ar nr cr) ∧ w'.cell? ⟨w.heap.size, 1, none⟩ = some (.slice An nn cn) ∧ w'.cell? ⟨w.heap.size, 2, none⟩ = some (.slice Ab nb cb))
    (first | exact HS0.out | exact CZ4.out | exact CZ5.out | fail)
    (first
      | (go_at_call 77; (with_reducible_and_instances refine (HASK.out _ (below_drew B3.out)).mono ?_); rintro e w4 ⟨rfl, hb4⟩; have U0 := Lib.hid (Z0.out.below (Below.trans (below_drew (Below.refl _ W3)) hb4)); have U4 := Lib.hid (Z4.out.below (Below.trans (below_drew (Below.refl _ W3)) hb4)); have BF := Lib.hid (box_sets (below_trans (below_drew B3.out) hb4) (R := w.heap.size + 1) (Nat.le_succ _) (.slice Ar nr cr) (.slice An nn cn) (.slice Ab nb cb)); have CZ4 := Lib.hid (And.intro U0.out.c0 (And.intro U0.out.c1 U0.out.c2)); have V0 := Lib.hid (((U0.out.put (i := 0) (u := .slice Ar nr cr) HR4.out).put (i := 1) (u := .slice An nn cn) HR4.out).put (i := 2) (u := .slice Ab nb cb) HR4.out); have CZ5 := Lib.hid (And.intro V0.out.c0 (And.intro V0.out.c1 V0.out.c2)); obtain ⟨r0, r1, r2, rf, -⟩ := U4.out; clear hb4)
      | fail)
  go_wp2_with fail
  refine bodyPost_ret (v := .tuple #[.agg #[.slice Ar nr cr, .slice An nn cn, .slice Ab nb cb], .string T1]) (by rw [results_cell_tmp rfl]; go_simp) rfl ?_
  have hl := HLR.out
  refine ⟨BF.out, Ar, cr, An, cn, Ab, cb, ?_, ⟨?_, ?_, ?_, ?_⟩, ?_⟩
  · rw [hl.1, hl.2.1, hl.2.2, HT1.out]
  · rw [hl.1]
    exact HRD.out.below BF.out
  · rw [hl.2.1]
    exact HNT.out.below BF.out
  · rw [hl.2.2]
    exact HBK.out.below BF.out
  · rw [hl.1]
    exact HRC.out
  · exact fun R hR h => h.below BF.out
set_option maxRecDepth 20000 in
set_option maxHeartbeats 6400000 in
theorem l10Line_no_inside (ws : List (List UInt8)) (hm0 : ws.length ≠ 2) (t : List UInt8) (w : World) (hR : SlE 3 enc3 w Ar nr s.roads) (hNt : NetS w An nn s.net) (hB : SlE 3 encB w Ab nb s.list) (hok : StOk s) (hrc : nr ≤ cr) (hw : SlE 1 encS w B n (([105, 110, 115, 105, 100, 101] :: ws).map bs))
    (hask : ∀ W, Below w.heap.size w W → Calls Tryz.prog 77 #[.agg #[.slice Ar nr cr, .slice An nn cn, .slice Ab nb cb], .slice B n c] W (Only (.string (bs t)) W)) (hn : n ≤ 1002) :
    Calls Tryz.prog 40 #[.agg #[.slice Ar nr cr, .slice An nn cn, .slice Ab nb cb], .slice B n c] w (LineRet Ar An Ab s s t w) := by
  obtain ⟨m, hm⟩ : ∃ m, ws.length = m := ⟨_, rfl⟩
  obtain rfl : n = m + 1 := by rw [← hw.len, ← hm]; simp
  have f3 : ((m : Int) == 2) = false := by rw [hm] at hm0; simp; omega
  have HM := Lib.hid hm
  obtain ⟨T1, hT1⟩ : ∃ T1, bs t = T1 := ⟨_, rfl⟩
  rw [hT1] at hask
  have HT1 := Lib.hid hT1
  clear hT1
  have HASK := Lib.hid hask
  clear hm hask hm0
  obtain ⟨b, off, wx, rfl, hbl, hx, -, g0⟩ := atS hw (Below.refl _ _) (show 0 < m + 1 by omega)
  obtain rfl : wx = ⟨#[105, 110, 115, 105, 100, 101]⟩ := (Option.some.inj hx).symm
  rw [Nat.add_zero] at g0
  obtain ⟨W1, hW1⟩ : ∃ W1, (w.alloc (.cells #[.slice Ar nr cr, .slice An nn cn, .slice Ab nb cb] 66)).alloc (.cells #[.slice none 0 0, .slice none 0 0, .slice none 0 0] 66) = W1 := ⟨_, rfl⟩
  have hs0 : (w.alloc (.cells #[.slice Ar nr cr, .slice An nn cn, .slice Ab nb cb] 66)).heap.size = w.heap.size + 1 := by simp
  have B1 := Lib.hid (show Below w.heap.size w W1 by rw [← hW1]; exact below_alloc (below_alloc (Below.refl w.heap.size w) _) _)
  have X0 := Lib.hid (show BoxAt W1 w.heap.size (.slice Ar nr cr) (.slice An nn cn) (.slice Ab nb cb) by rw [← hW1]; exact (box_new w _ _ _ _).below (below_alloc (Below.refl _ _) _))
  have X4 := Lib.hid (show BoxAt W1 (w.heap.size + 1) (.slice none 0 0) (.slice none 0 0) (.slice none 0 0) by rw [← hW1]; exact box_at _ _ _ _ _ hs0.symm)
  have G1 := Lib.hid (cell_below B1.out g0)
  have HNM := Lib.hid (l10Numbers_any (some ⟨b, off, none⟩) (m + 1) c [105, 110, 115, 105, 100, 101] ws W1 (hw.below B1.out) (by omega))
  have HRD := Lib.hid hR
  have HNT := Lib.hid hNt
  have HBK := Lib.hid hB
  have HRC := Lib.hid hrc
  have HLR := Lib.hid (And.intro hR.len (And.intro hNt.len hB.len))
  clear hR hNt hB hw hx g0 hs0 hrc
  go_enter Tryz.func40, Tryz.ntmps40
  go_wp2_with fail
  clear hW1
  refine HNM.out.mono ?_
  rintro e w2 ⟨v, rfl, hown, hb2⟩
  obtain ⟨A2, c2, rfl, hsl2, -⟩ := hown.slc encI_len (n := m) (by rw [List.length_map]; exact HM.out)
  have Y0 := Lib.hid (X0.out.below hb2)
  have Y4 := Lib.hid (X4.out.below hb2)
  have B2 := Lib.hid (below_trans B1.out hb2)
  have G2 := Lib.hid (cell_below hb2 G1.out)
  clear hown hb2 hsl2 X0 X4 B1 G1 HNM
  obtain ⟨W3, hW3⟩ : ∃ W3, w2.alloc (.cells #[.slice Ar nr cr, .slice An nn cn, .slice Ab nb cb] 66) = W3 := ⟨_, rfl⟩
  have bw3 : Below w2.heap.size w2 W3 := by rw [← hW3]; exact below_alloc (Below.refl w2.heap.size w2) _
  have Z0 := Lib.hid (Y0.out.below bw3)
  have Z4 := Lib.hid (Y4.out.below bw3)
  have Z7 := Lib.hid (show BoxAt W3 w2.heap.size (.slice Ar nr cr) (.slice An nn cn) (.slice Ab nb cb) by rw [← hW3]; exact box_new w2 _ _ _ _)
  have B3 := Lib.hid (below_trans B2.out bw3)
  have G3 := Lib.hid (cell_below bw3 G2.out)
  have HSZ := Lib.hid (show w.heap.size + 1 < w2.heap.size ∧ w2.heap.size < W3.heap.size from ⟨Y4.out.lt, Z7.out.lt⟩)
  obtain ⟨k0, k1, k2, kf, -⟩ := Y0.out
  have g2 := G2.out
  have g3 := G3.out
  clear bw3 hbl
  have HS0 := Lib.hid (show W3.drew.cell? ⟨w.heap.size, 0, none⟩ = some (.slice Ar nr cr) ∧ W3.drew.cell? ⟨w.heap.size, 1, none⟩ = some (.slice An nn cn) ∧ W3.drew.cell? ⟨w.heap.size, 2, none⟩ = some (.slice Ab nb cb) from ⟨Z0.out.c0, Z0.out.c1, Z0.out.c2⟩)
  have HR4 := Lib.hid (show w.heap.size + 1 ≠ w.heap.size by omega)
  go_upto_region 4 with (fail)
  clear hW3 g2 g3 k0 k1 k2 kf
  go_region_held3 (fun w' => w'.cell? ⟨w.heap.size, 0, none⟩ = some (.slice Ar nr cr) ∧ w'.cell? ⟨w.heap.size, 1, none⟩ = some (.slice An nn cn) ∧ w'.cell? ⟨w.heap.size, 2, none⟩ = some (.slice Ab nb cb))
    (first | exact HS0.out | exact CZ4.out | exact CZ5.out | fail)
    (first
      | (go_at_call 77; (with_reducible_and_instances refine (HASK.out _ (below_drew B3.out)).mono ?_); rintro e w4 ⟨rfl, hb4⟩; have U0 := Lib.hid (Z0.out.below (Below.trans (below_drew (Below.refl _ W3)) hb4)); have U4 := Lib.hid (Z4.out.below (Below.trans (below_drew (Below.refl _ W3)) hb4)); have BF := Lib.hid (box_sets (below_trans (below_drew B3.out) hb4) (R := w.heap.size + 1) (Nat.le_succ _) (.slice Ar nr cr) (.slice An nn cn) (.slice Ab nb cb)); have CZ4 := Lib.hid (And.intro U0.out.c0 (And.intro U0.out.c1 U0.out.c2)); have V0 := Lib.hid (((U0.out.put (i := 0) (u := .slice Ar nr cr) HR4.out).put (i := 1) (u := .slice An nn cn) HR4.out).put (i := 2) (u := .slice Ab nb cb) HR4.out); have CZ5 := Lib.hid (And.intro V0.out.c0 (And.intro V0.out.c1 V0.out.c2)); obtain ⟨r0, r1, r2, rf, -⟩ := U4.out; clear hb4)
      | fail)
  go_wp2_with fail
  refine bodyPost_ret (v := .tuple #[.agg #[.slice Ar nr cr, .slice An nn cn, .slice Ab nb cb], .string T1]) (by rw [results_cell_tmp rfl]; go_simp) rfl ?_
  have hl := HLR.out
  refine ⟨BF.out, Ar, cr, An, cn, Ab, cb, ?_, ⟨?_, ?_, ?_, ?_⟩, ?_⟩
  · rw [hl.1, hl.2.1, hl.2.2, HT1.out]
  · rw [hl.1]
    exact HRD.out.below BF.out
  · rw [hl.2.1]
    exact HNT.out.below BF.out
  · rw [hl.2.2]
    exact HBK.out.below BF.out
  · rw [hl.1]
    exact HRC.out
  · exact fun R hR h => h.below BF.out
set_option maxRecDepth 20000 in
set_option maxHeartbeats 6400000 in
theorem l10Line_no_outside (ws : List (List UInt8)) (hm0 : ws.length ≠ 2) (t : List UInt8) (w : World) (hR : SlE 3 enc3 w Ar nr s.roads) (hNt : NetS w An nn s.net) (hB : SlE 3 encB w Ab nb s.list) (hok : StOk s) (hrc : nr ≤ cr) (hw : SlE 1 encS w B n (([111, 117, 116, 115, 105, 100, 101] :: ws).map bs))
    (hask : ∀ W, Below w.heap.size w W → Calls Tryz.prog 77 #[.agg #[.slice Ar nr cr, .slice An nn cn, .slice Ab nb cb], .slice B n c] W (Only (.string (bs t)) W)) (hn : n ≤ 1002) :
    Calls Tryz.prog 40 #[.agg #[.slice Ar nr cr, .slice An nn cn, .slice Ab nb cb], .slice B n c] w (LineRet Ar An Ab s s t w) := by
  obtain ⟨m, hm⟩ : ∃ m, ws.length = m := ⟨_, rfl⟩
  obtain rfl : n = m + 1 := by rw [← hw.len, ← hm]; simp
  have f3 : ((m : Int) == 2) = false := by rw [hm] at hm0; simp; omega
  have HM := Lib.hid hm
  obtain ⟨T1, hT1⟩ : ∃ T1, bs t = T1 := ⟨_, rfl⟩
  rw [hT1] at hask
  have HT1 := Lib.hid hT1
  clear hT1
  have HASK := Lib.hid hask
  clear hm hask hm0
  obtain ⟨b, off, wx, rfl, hbl, hx, -, g0⟩ := atS hw (Below.refl _ _) (show 0 < m + 1 by omega)
  obtain rfl : wx = ⟨#[111, 117, 116, 115, 105, 100, 101]⟩ := (Option.some.inj hx).symm
  rw [Nat.add_zero] at g0
  obtain ⟨W1, hW1⟩ : ∃ W1, (w.alloc (.cells #[.slice Ar nr cr, .slice An nn cn, .slice Ab nb cb] 66)).alloc (.cells #[.slice none 0 0, .slice none 0 0, .slice none 0 0] 66) = W1 := ⟨_, rfl⟩
  have hs0 : (w.alloc (.cells #[.slice Ar nr cr, .slice An nn cn, .slice Ab nb cb] 66)).heap.size = w.heap.size + 1 := by simp
  have B1 := Lib.hid (show Below w.heap.size w W1 by rw [← hW1]; exact below_alloc (below_alloc (Below.refl w.heap.size w) _) _)
  have X0 := Lib.hid (show BoxAt W1 w.heap.size (.slice Ar nr cr) (.slice An nn cn) (.slice Ab nb cb) by rw [← hW1]; exact (box_new w _ _ _ _).below (below_alloc (Below.refl _ _) _))
  have X4 := Lib.hid (show BoxAt W1 (w.heap.size + 1) (.slice none 0 0) (.slice none 0 0) (.slice none 0 0) by rw [← hW1]; exact box_at _ _ _ _ _ hs0.symm)
  have G1 := Lib.hid (cell_below B1.out g0)
  have HNM := Lib.hid (l10Numbers_any (some ⟨b, off, none⟩) (m + 1) c [111, 117, 116, 115, 105, 100, 101] ws W1 (hw.below B1.out) (by omega))
  have HRD := Lib.hid hR
  have HNT := Lib.hid hNt
  have HBK := Lib.hid hB
  have HRC := Lib.hid hrc
  have HLR := Lib.hid (And.intro hR.len (And.intro hNt.len hB.len))
  clear hR hNt hB hw hx g0 hs0 hrc
  go_enter Tryz.func40, Tryz.ntmps40
  go_wp2_with fail
  clear hW1
  refine HNM.out.mono ?_
  rintro e w2 ⟨v, rfl, hown, hb2⟩
  obtain ⟨A2, c2, rfl, hsl2, -⟩ := hown.slc encI_len (n := m) (by rw [List.length_map]; exact HM.out)
  have Y0 := Lib.hid (X0.out.below hb2)
  have Y4 := Lib.hid (X4.out.below hb2)
  have B2 := Lib.hid (below_trans B1.out hb2)
  have G2 := Lib.hid (cell_below hb2 G1.out)
  clear hown hb2 hsl2 X0 X4 B1 G1 HNM
  obtain ⟨W3, hW3⟩ : ∃ W3, w2.alloc (.cells #[.slice Ar nr cr, .slice An nn cn, .slice Ab nb cb] 66) = W3 := ⟨_, rfl⟩
  have bw3 : Below w2.heap.size w2 W3 := by rw [← hW3]; exact below_alloc (Below.refl w2.heap.size w2) _
  have Z0 := Lib.hid (Y0.out.below bw3)
  have Z4 := Lib.hid (Y4.out.below bw3)
  have Z7 := Lib.hid (show BoxAt W3 w2.heap.size (.slice Ar nr cr) (.slice An nn cn) (.slice Ab nb cb) by rw [← hW3]; exact box_new w2 _ _ _ _)
  have B3 := Lib.hid (below_trans B2.out bw3)
  have G3 := Lib.hid (cell_below bw3 G2.out)
  have HSZ := Lib.hid (show w.heap.size + 1 < w2.heap.size ∧ w2.heap.size < W3.heap.size from ⟨Y4.out.lt, Z7.out.lt⟩)
  obtain ⟨k0, k1, k2, kf, -⟩ := Y0.out
  have g2 := G2.out
  have g3 := G3.out
  clear bw3 hbl
  have HS0 := Lib.hid (show W3.drew.cell? ⟨w.heap.size, 0, none⟩ = some (.slice Ar nr cr) ∧ W3.drew.cell? ⟨w.heap.size, 1, none⟩ = some (.slice An nn cn) ∧ W3.drew.cell? ⟨w.heap.size, 2, none⟩ = some (.slice Ab nb cb) from ⟨Z0.out.c0, Z0.out.c1, Z0.out.c2⟩)
  have HR4 := Lib.hid (show w.heap.size + 1 ≠ w.heap.size by omega)
  go_upto_region 4 with (fail)
  clear hW3 g2 g3 k0 k1 k2 kf
  go_region_held3 (fun w' => w'.cell? ⟨w.heap.size, 0, none⟩ = some (.slice Ar nr cr) ∧ w'.cell? ⟨w.heap.size, 1, none⟩ = some (.slice An nn cn) ∧ w'.cell? ⟨w.heap.size, 2, none⟩ = some (.slice Ab nb cb))
    (first | exact HS0.out | exact CZ4.out | exact CZ5.out | fail)
    (first
      | (go_at_call 77; (with_reducible_and_instances refine (HASK.out _ (below_drew B3.out)).mono ?_); rintro e w4 ⟨rfl, hb4⟩; have U0 := Lib.hid (Z0.out.below (Below.trans (below_drew (Below.refl _ W3)) hb4)); have U4 := Lib.hid (Z4.out.below (Below.trans (below_drew (Below.refl _ W3)) hb4)); have BF := Lib.hid (box_sets (below_trans (below_drew B3.out) hb4) (R := w.heap.size + 1) (Nat.le_succ _) (.slice Ar nr cr) (.slice An nn cn) (.slice Ab nb cb)); have CZ4 := Lib.hid (And.intro U0.out.c0 (And.intro U0.out.c1 U0.out.c2)); have V0 := Lib.hid (((U0.out.put (i := 0) (u := .slice Ar nr cr) HR4.out).put (i := 1) (u := .slice An nn cn) HR4.out).put (i := 2) (u := .slice Ab nb cb) HR4.out); have CZ5 := Lib.hid (And.intro V0.out.c0 (And.intro V0.out.c1 V0.out.c2)); obtain ⟨r0, r1, r2, rf, -⟩ := U4.out; clear hb4)
      | fail)
  go_wp2_with fail
  refine bodyPost_ret (v := .tuple #[.agg #[.slice Ar nr cr, .slice An nn cn, .slice Ab nb cb], .string T1]) (by rw [results_cell_tmp rfl]; go_simp) rfl ?_
  have hl := HLR.out
  refine ⟨BF.out, Ar, cr, An, cn, Ab, cb, ?_, ⟨?_, ?_, ?_, ?_⟩, ?_⟩
  · rw [hl.1, hl.2.1, hl.2.2, HT1.out]
  · rw [hl.1]
    exact HRD.out.below BF.out
  · rw [hl.2.1]
    exact HNT.out.below BF.out
  · rw [hl.2.2]
    exact HBK.out.below BF.out
  · rw [hl.1]
    exact HRC.out
  · exact fun R hR h => h.below BF.out
set_option maxRecDepth 20000 in
set_option maxHeartbeats 6400000 in
theorem l10Line_no_coach (ws : List (List UInt8)) (hm0 : ¬ (0 < ws.length ∧ ws.length % 3 = 0)) (t : List UInt8) (w : World) (hR : SlE 3 enc3 w Ar nr s.roads) (hNt : NetS w An nn s.net) (hB : SlE 3 encB w Ab nb s.list) (hok : StOk s) (hrc : nr ≤ cr) (hw : SlE 1 encS w B n (([99, 111, 97, 99, 104] :: ws).map bs))
    (hask : ∀ W, Below w.heap.size w W → Calls Tryz.prog 77 #[.agg #[.slice Ar nr cr, .slice An nn cn, .slice Ab nb cb], .slice B n c] W (Only (.string (bs t)) W)) (hn : n ≤ 1002) :
    Calls Tryz.prog 40 #[.agg #[.slice Ar nr cr, .slice An nn cn, .slice Ab nb cb], .slice B n c] w (LineRet Ar An Ab s s t w) := by
  obtain ⟨m, hm⟩ : ∃ m, ws.length = m := ⟨_, rfl⟩
  obtain rfl : n = m + 1 := by rw [← hw.len, ← hm]; simp
  rw [hm] at hm0
  have f3 : ((0 : Int) < (m : Int) ∧ ((m : Int) % 3 == 0) = false) ∨ ¬ (0 : Int) < (m : Int) := by
    rcases Nat.eq_zero_or_pos m with h | h
    · exact .inr (by omega)
    · refine .inl ⟨by omega, ?_⟩
      have : ¬ (m : Int) % 3 = 0 := fun h2 => hm0 ⟨h, by omega⟩
      simpa using this
  have HM := Lib.hid hm
  obtain ⟨T1, hT1⟩ : ∃ T1, bs t = T1 := ⟨_, rfl⟩
  rw [hT1] at hask
  have HT1 := Lib.hid hT1
  clear hT1
  have HASK := Lib.hid hask
  clear hm hask hm0
  obtain ⟨b, off, wx, rfl, hbl, hx, -, g0⟩ := atS hw (Below.refl _ _) (show 0 < m + 1 by omega)
  obtain rfl : wx = ⟨#[99, 111, 97, 99, 104]⟩ := (Option.some.inj hx).symm
  rw [Nat.add_zero] at g0
  obtain ⟨W1, hW1⟩ : ∃ W1, (w.alloc (.cells #[.slice Ar nr cr, .slice An nn cn, .slice Ab nb cb] 66)).alloc (.cells #[.slice none 0 0, .slice none 0 0, .slice none 0 0] 66) = W1 := ⟨_, rfl⟩
  have hs0 : (w.alloc (.cells #[.slice Ar nr cr, .slice An nn cn, .slice Ab nb cb] 66)).heap.size = w.heap.size + 1 := by simp
  have B1 := Lib.hid (show Below w.heap.size w W1 by rw [← hW1]; exact below_alloc (below_alloc (Below.refl w.heap.size w) _) _)
  have X0 := Lib.hid (show BoxAt W1 w.heap.size (.slice Ar nr cr) (.slice An nn cn) (.slice Ab nb cb) by rw [← hW1]; exact (box_new w _ _ _ _).below (below_alloc (Below.refl _ _) _))
  have X4 := Lib.hid (show BoxAt W1 (w.heap.size + 1) (.slice none 0 0) (.slice none 0 0) (.slice none 0 0) by rw [← hW1]; exact box_at _ _ _ _ _ hs0.symm)
  have G1 := Lib.hid (cell_below B1.out g0)
  have HNM := Lib.hid (l10Numbers_any (some ⟨b, off, none⟩) (m + 1) c [99, 111, 97, 99, 104] ws W1 (hw.below B1.out) (by omega))
  have HRD := Lib.hid hR
  have HNT := Lib.hid hNt
  have HBK := Lib.hid hB
  have HRC := Lib.hid hrc
  have HLR := Lib.hid (And.intro hR.len (And.intro hNt.len hB.len))
  clear hR hNt hB hw hx g0 hs0 hrc
  rcases f3 with ⟨i0, f3⟩ | f3
  · go_enter Tryz.func40, Tryz.ntmps40
    go_wp2_with fail
    clear hW1
    refine HNM.out.mono ?_
    rintro e w2 ⟨v, rfl, hown, hb2⟩
    obtain ⟨A2, c2, rfl, hsl2, -⟩ := hown.slc encI_len (n := m) (by rw [List.length_map]; exact HM.out)
    have Y0 := Lib.hid (X0.out.below hb2)
    have Y4 := Lib.hid (X4.out.below hb2)
    have B2 := Lib.hid (below_trans B1.out hb2)
    have G2 := Lib.hid (cell_below hb2 G1.out)
    clear hown hb2 hsl2 X0 X4 B1 G1 HNM
    obtain ⟨W3, hW3⟩ : ∃ W3, w2.alloc (.cells #[.slice Ar nr cr, .slice An nn cn, .slice Ab nb cb] 66) = W3 := ⟨_, rfl⟩
    have bw3 : Below w2.heap.size w2 W3 := by rw [← hW3]; exact below_alloc (Below.refl w2.heap.size w2) _
    have Z0 := Lib.hid (Y0.out.below bw3)
    have Z4 := Lib.hid (Y4.out.below bw3)
    have Z7 := Lib.hid (show BoxAt W3 w2.heap.size (.slice Ar nr cr) (.slice An nn cn) (.slice Ab nb cb) by rw [← hW3]; exact box_new w2 _ _ _ _)
    have B3 := Lib.hid (below_trans B2.out bw3)
    have G3 := Lib.hid (cell_below bw3 G2.out)
    have HSZ := Lib.hid (show w.heap.size + 1 < w2.heap.size ∧ w2.heap.size < W3.heap.size from ⟨Y4.out.lt, Z7.out.lt⟩)
    obtain ⟨k0, k1, k2, kf, -⟩ := Y0.out
    have g2 := G2.out
    have g3 := G3.out
    clear bw3 hbl
    have HS0 := Lib.hid (show W3.drew.cell? ⟨w.heap.size, 0, none⟩ = some (.slice Ar nr cr) ∧ W3.drew.cell? ⟨w.heap.size, 1, none⟩ = some (.slice An nn cn) ∧ W3.drew.cell? ⟨w.heap.size, 2, none⟩ = some (.slice Ab nb cb) from ⟨Z0.out.c0, Z0.out.c1, Z0.out.c2⟩)
    have HR4 := Lib.hid (show w.heap.size + 1 ≠ w.heap.size by omega)
    go_upto_region 4 with (fail)
    clear hW3 g2 g3 k0 k1 k2 kf
    go_region_held3 (fun w' => w'.cell? ⟨w.heap.size, 0, none⟩ = some (.slice Ar nr cr) ∧ w'.cell? ⟨w.heap.size, 1, none⟩ = some (.slice An nn cn) ∧ w'.cell? ⟨w.heap.size, 2, none⟩ = some (.slice Ab nb cb))
      (first | exact HS0.out | exact CZ4.out | exact CZ5.out | fail)
      (first
        | (go_at_call 77; (with_reducible_and_instances refine (HASK.out _ (below_drew B3.out)).mono ?_); rintro e w4 ⟨rfl, hb4⟩; have U0 := Lib.hid (Z0.out.below (Below.trans (below_drew (Below.refl _ W3)) hb4)); have U4 := Lib.hid (Z4.out.below (Below.trans (below_drew (Below.refl _ W3)) hb4)); have BF := Lib.hid (box_sets (below_trans (below_drew B3.out) hb4) (R := w.heap.size + 1) (Nat.le_succ _) (.slice Ar nr cr) (.slice An nn cn) (.slice Ab nb cb)); have CZ4 := Lib.hid (And.intro U0.out.c0 (And.intro U0.out.c1 U0.out.c2)); have V0 := Lib.hid (((U0.out.put (i := 0) (u := .slice Ar nr cr) HR4.out).put (i := 1) (u := .slice An nn cn) HR4.out).put (i := 2) (u := .slice Ab nb cb) HR4.out); have CZ5 := Lib.hid (And.intro V0.out.c0 (And.intro V0.out.c1 V0.out.c2)); obtain ⟨r0, r1, r2, rf, -⟩ := U4.out; clear hb4)
        | fail)
    go_wp2_with fail
    refine bodyPost_ret (v := .tuple #[.agg #[.slice Ar nr cr, .slice An nn cn, .slice Ab nb cb], .string T1]) (by rw [results_cell_tmp rfl]; go_simp) rfl ?_
    have hl := HLR.out
    refine ⟨BF.out, Ar, cr, An, cn, Ab, cb, ?_, ⟨?_, ?_, ?_, ?_⟩, ?_⟩
    · rw [hl.1, hl.2.1, hl.2.2, HT1.out]
    · rw [hl.1]
      exact HRD.out.below BF.out
    · rw [hl.2.1]
      exact HNT.out.below BF.out
    · rw [hl.2.2]
      exact HBK.out.below BF.out
    · rw [hl.1]
      exact HRC.out
    · exact fun R hR h => h.below BF.out
  · go_enter Tryz.func40, Tryz.ntmps40
    go_wp2_with fail
    clear hW1
    refine HNM.out.mono ?_
    rintro e w2 ⟨v, rfl, hown, hb2⟩
    obtain ⟨A2, c2, rfl, hsl2, -⟩ := hown.slc encI_len (n := m) (by rw [List.length_map]; exact HM.out)
    have Y0 := Lib.hid (X0.out.below hb2)
    have Y4 := Lib.hid (X4.out.below hb2)
    have B2 := Lib.hid (below_trans B1.out hb2)
    have G2 := Lib.hid (cell_below hb2 G1.out)
    clear hown hb2 hsl2 X0 X4 B1 G1 HNM
    obtain ⟨W3, hW3⟩ : ∃ W3, w2.alloc (.cells #[.slice Ar nr cr, .slice An nn cn, .slice Ab nb cb] 66) = W3 := ⟨_, rfl⟩
    have bw3 : Below w2.heap.size w2 W3 := by rw [← hW3]; exact below_alloc (Below.refl w2.heap.size w2) _
    have Z0 := Lib.hid (Y0.out.below bw3)
    have Z4 := Lib.hid (Y4.out.below bw3)
    have Z7 := Lib.hid (show BoxAt W3 w2.heap.size (.slice Ar nr cr) (.slice An nn cn) (.slice Ab nb cb) by rw [← hW3]; exact box_new w2 _ _ _ _)
    have B3 := Lib.hid (below_trans B2.out bw3)
    have G3 := Lib.hid (cell_below bw3 G2.out)
    have HSZ := Lib.hid (show w.heap.size + 1 < w2.heap.size ∧ w2.heap.size < W3.heap.size from ⟨Y4.out.lt, Z7.out.lt⟩)
    obtain ⟨k0, k1, k2, kf, -⟩ := Y0.out
    have g2 := G2.out
    have g3 := G3.out
    clear bw3 hbl
    have HS0 := Lib.hid (show W3.drew.cell? ⟨w.heap.size, 0, none⟩ = some (.slice Ar nr cr) ∧ W3.drew.cell? ⟨w.heap.size, 1, none⟩ = some (.slice An nn cn) ∧ W3.drew.cell? ⟨w.heap.size, 2, none⟩ = some (.slice Ab nb cb) from ⟨Z0.out.c0, Z0.out.c1, Z0.out.c2⟩)
    have HR4 := Lib.hid (show w.heap.size + 1 ≠ w.heap.size by omega)
    go_upto_region 4 with (fail)
    clear hW3 g2 g3 k0 k1 k2 kf
    go_region_held3 (fun w' => w'.cell? ⟨w.heap.size, 0, none⟩ = some (.slice Ar nr cr) ∧ w'.cell? ⟨w.heap.size, 1, none⟩ = some (.slice An nn cn) ∧ w'.cell? ⟨w.heap.size, 2, none⟩ = some (.slice Ab nb cb))
      (first | exact HS0.out | exact CZ4.out | exact CZ5.out | fail)
      (first
        | (go_at_call 77; (with_reducible_and_instances refine (HASK.out _ (below_drew B3.out)).mono ?_); rintro e w4 ⟨rfl, hb4⟩; have U0 := Lib.hid (Z0.out.below (Below.trans (below_drew (Below.refl _ W3)) hb4)); have U4 := Lib.hid (Z4.out.below (Below.trans (below_drew (Below.refl _ W3)) hb4)); have BF := Lib.hid (box_sets (below_trans (below_drew B3.out) hb4) (R := w.heap.size + 1) (Nat.le_succ _) (.slice Ar nr cr) (.slice An nn cn) (.slice Ab nb cb)); have CZ4 := Lib.hid (And.intro U0.out.c0 (And.intro U0.out.c1 U0.out.c2)); have V0 := Lib.hid (((U0.out.put (i := 0) (u := .slice Ar nr cr) HR4.out).put (i := 1) (u := .slice An nn cn) HR4.out).put (i := 2) (u := .slice Ab nb cb) HR4.out); have CZ5 := Lib.hid (And.intro V0.out.c0 (And.intro V0.out.c1 V0.out.c2)); obtain ⟨r0, r1, r2, rf, -⟩ := U4.out; clear hb4)
        | fail)
    go_wp2_with fail
    refine bodyPost_ret (v := .tuple #[.agg #[.slice Ar nr cr, .slice An nn cn, .slice Ab nb cb], .string T1]) (by rw [results_cell_tmp rfl]; go_simp) rfl ?_
    have hl := HLR.out
    refine ⟨BF.out, Ar, cr, An, cn, Ab, cb, ?_, ⟨?_, ?_, ?_, ?_⟩, ?_⟩
    · rw [hl.1, hl.2.1, hl.2.2, HT1.out]
    · rw [hl.1]
      exact HRD.out.below BF.out
    · rw [hl.2.1]
      exact HNT.out.below BF.out
    · rw [hl.2.2]
      exact HBK.out.below BF.out
    · rw [hl.1]
      exact HRC.out
    · exact fun R hR h => h.below BF.out
set_option maxRecDepth 20000 in
set_option maxHeartbeats 6400000 in
theorem l10Line_ask (wd : List UInt8) (ws : List (List UInt8)) (h0 : wd ≠ [114, 111, 97, 100]) (h1 : wd ≠ [99, 108, 111, 115, 101]) (h2 : wd ≠ [99, 111, 97, 99, 104]) (h3 : wd ≠ [105, 110, 115, 105, 100, 101]) (h4 : wd ≠ [111, 117, 116, 115, 105, 100, 101]) (t : List UInt8) (w : World) (hR : SlE 3 enc3 w Ar nr s.roads) (hNt : NetS w An nn s.net) (hB : SlE 3 encB w Ab nb s.list) (hok : StOk s) (hrc : nr ≤ cr) (hw : SlE 1 encS w B n ((wd :: ws).map bs))
    (hask : ∀ W, Below w.heap.size w W → Calls Tryz.prog 77 #[.agg #[.slice Ar nr cr, .slice An nn cn, .slice Ab nb cb], .slice B n c] W (Only (.string (bs t)) W)) (hn : n ≤ 1002) :
    Calls Tryz.prog 40 #[.agg #[.slice Ar nr cr, .slice An nn cn, .slice Ab nb cb], .slice B n c] w (LineRet Ar An Ab s s t w) := by
  obtain ⟨m, hm⟩ : ∃ m, ws.length = m := ⟨_, rfl⟩
  obtain rfl : n = m + 1 := by rw [← hw.len, ← hm]; simp
  have d0 : ((bs wd).toList == [114, 111, 97, 100]) = false := by rw [ByteArray.toList_eq, bs_data]; simpa using h0
  have d1 : ((bs wd).toList == [99, 108, 111, 115, 101]) = false := by rw [ByteArray.toList_eq, bs_data]; simpa using h1
  have d2 : ((bs wd).toList == [99, 111, 97, 99, 104]) = false := by rw [ByteArray.toList_eq, bs_data]; simpa using h2
  have d3 : ((bs wd).toList == [105, 110, 115, 105, 100, 101]) = false := by rw [ByteArray.toList_eq, bs_data]; simpa using h3
  have d4 : ((bs wd).toList == [111, 117, 116, 115, 105, 100, 101]) = false := by rw [ByteArray.toList_eq, bs_data]; simpa using h4
  have HM := Lib.hid hm
  obtain ⟨T1, hT1⟩ : ∃ T1, bs t = T1 := ⟨_, rfl⟩
  rw [hT1] at hask
  have HT1 := Lib.hid hT1
  clear hT1
  have HASK := Lib.hid hask
  clear hm hask
  obtain ⟨b, off, wx, rfl, hbl, hx, -, g0⟩ := atS hw (Below.refl _ _) (show 0 < m + 1 by omega)
  obtain rfl : wx = bs wd := (Option.some.inj hx).symm
  rw [Nat.add_zero] at g0
  obtain ⟨W1, hW1⟩ : ∃ W1, (w.alloc (.cells #[.slice Ar nr cr, .slice An nn cn, .slice Ab nb cb] 66)).alloc (.cells #[.slice none 0 0, .slice none 0 0, .slice none 0 0] 66) = W1 := ⟨_, rfl⟩
  have hs0 : (w.alloc (.cells #[.slice Ar nr cr, .slice An nn cn, .slice Ab nb cb] 66)).heap.size = w.heap.size + 1 := by simp
  have B1 := Lib.hid (show Below w.heap.size w W1 by rw [← hW1]; exact below_alloc (below_alloc (Below.refl w.heap.size w) _) _)
  have X0 := Lib.hid (show BoxAt W1 w.heap.size (.slice Ar nr cr) (.slice An nn cn) (.slice Ab nb cb) by rw [← hW1]; exact (box_new w _ _ _ _).below (below_alloc (Below.refl _ _) _))
  have X4 := Lib.hid (show BoxAt W1 (w.heap.size + 1) (.slice none 0 0) (.slice none 0 0) (.slice none 0 0) by rw [← hW1]; exact box_at _ _ _ _ _ hs0.symm)
  have G1 := Lib.hid (cell_below B1.out g0)
  have HNM := Lib.hid (l10Numbers_any (some ⟨b, off, none⟩) (m + 1) c wd ws W1 (hw.below B1.out) (by omega))
  have HRD := Lib.hid hR
  have HNT := Lib.hid hNt
  have HBK := Lib.hid hB
  have HRC := Lib.hid hrc
  have HLR := Lib.hid (And.intro hR.len (And.intro hNt.len hB.len))
  clear hR hNt hB hw hx g0 hs0 hrc
  go_enter Tryz.func40, Tryz.ntmps40
  go_wp2_with fail
  clear hW1
  refine HNM.out.mono ?_
  rintro e w2 ⟨v, rfl, hown, hb2⟩
  obtain ⟨A2, c2, rfl, hsl2, -⟩ := hown.slc encI_len (n := m) (by rw [List.length_map]; exact HM.out)
  have Y0 := Lib.hid (X0.out.below hb2)
  have Y4 := Lib.hid (X4.out.below hb2)
  have B2 := Lib.hid (below_trans B1.out hb2)
  have G2 := Lib.hid (cell_below hb2 G1.out)
  clear hown hb2 hsl2 X0 X4 B1 G1 HNM
  obtain ⟨W3, hW3⟩ : ∃ W3, w2.alloc (.cells #[.slice Ar nr cr, .slice An nn cn, .slice Ab nb cb] 66) = W3 := ⟨_, rfl⟩
  have bw3 : Below w2.heap.size w2 W3 := by rw [← hW3]; exact below_alloc (Below.refl w2.heap.size w2) _
  have Z0 := Lib.hid (Y0.out.below bw3)
  have Z4 := Lib.hid (Y4.out.below bw3)
  have Z7 := Lib.hid (show BoxAt W3 w2.heap.size (.slice Ar nr cr) (.slice An nn cn) (.slice Ab nb cb) by rw [← hW3]; exact box_new w2 _ _ _ _)
  have B3 := Lib.hid (below_trans B2.out bw3)
  have G3 := Lib.hid (cell_below bw3 G2.out)
  have HSZ := Lib.hid (show w.heap.size + 1 < w2.heap.size ∧ w2.heap.size < W3.heap.size from ⟨Y4.out.lt, Z7.out.lt⟩)
  obtain ⟨k0, k1, k2, kf, -⟩ := Y0.out
  have g2 := G2.out
  have g3 := G3.out
  clear bw3 hbl
  have HS0 := Lib.hid (show W3.drew.cell? ⟨w.heap.size, 0, none⟩ = some (.slice Ar nr cr) ∧ W3.drew.cell? ⟨w.heap.size, 1, none⟩ = some (.slice An nn cn) ∧ W3.drew.cell? ⟨w.heap.size, 2, none⟩ = some (.slice Ab nb cb) from ⟨Z0.out.c0, Z0.out.c1, Z0.out.c2⟩)
  have HR4 := Lib.hid (show w.heap.size + 1 ≠ w.heap.size by omega)
  go_upto_region 4 with (fail)
  clear hW3 g2 g3 k0 k1 k2 kf
  go_region_held3 (fun w' => w'.cell? ⟨w.heap.size, 0, none⟩ = some (.slice Ar nr cr) ∧ w'.cell? ⟨w.heap.size, 1, none⟩ = some (.slice An nn cn) ∧ w'.cell? ⟨w.heap.size, 2, none⟩ = some (.slice Ab nb cb))
    (first | exact HS0.out | exact CZ4.out | exact CZ5.out | fail)
    (first
      | (go_at_call 77; (with_reducible_and_instances refine (HASK.out _ (below_drew B3.out)).mono ?_); rintro e w4 ⟨rfl, hb4⟩; have U0 := Lib.hid (Z0.out.below (Below.trans (below_drew (Below.refl _ W3)) hb4)); have U4 := Lib.hid (Z4.out.below (Below.trans (below_drew (Below.refl _ W3)) hb4)); have BF := Lib.hid (box_sets (below_trans (below_drew B3.out) hb4) (R := w.heap.size + 1) (Nat.le_succ _) (.slice Ar nr cr) (.slice An nn cn) (.slice Ab nb cb)); have CZ4 := Lib.hid (And.intro U0.out.c0 (And.intro U0.out.c1 U0.out.c2)); have V0 := Lib.hid (((U0.out.put (i := 0) (u := .slice Ar nr cr) HR4.out).put (i := 1) (u := .slice An nn cn) HR4.out).put (i := 2) (u := .slice Ab nb cb) HR4.out); have CZ5 := Lib.hid (And.intro V0.out.c0 (And.intro V0.out.c1 V0.out.c2)); obtain ⟨r0, r1, r2, rf, -⟩ := U4.out; clear hb4)
      | fail)
  go_wp2_with fail
  refine bodyPost_ret (v := .tuple #[.agg #[.slice Ar nr cr, .slice An nn cn, .slice Ab nb cb], .string T1]) (by rw [results_cell_tmp rfl]; go_simp) rfl ?_
  have hl := HLR.out
  refine ⟨BF.out, Ar, cr, An, cn, Ab, cb, ?_, ⟨?_, ?_, ?_, ?_⟩, ?_⟩
  · rw [hl.1, hl.2.1, hl.2.2, HT1.out]
  · rw [hl.1]
    exact HRD.out.below BF.out
  · rw [hl.2.1]
    exact HNT.out.below BF.out
  · rw [hl.2.2]
    exact HBK.out.below BF.out
  · rw [hl.1]
    exact HRC.out
  · exact fun R hR h => h.below BF.out
end
end Go.Proofs.YtgjllminidlolaaGreatDoor
