/- Texts of mine in one: QWalkG QWalkH. -/
import Derived.Test.YtgjllminidlolaaGreatDoorVAV
import Derived.Test.YtgjllminidlolaaGreatDoorVAE
import Derived.Test.YtgjllminidlolaaGreatDoorVAS
/- Contracts: the lines of the reference that ask, word by word. -/
set_option linter.unusedVariables false
namespace Go.Proofs.YtgjllminidlolaaGreatDoor
open Go.RowKit

theorem plan_bd {xs : List B3} (h : BookOk 5 xs) : (plan xs 5).length ≤ 16 ∧ ∀ x ∈ plan xs 5, 0 ≤ x ∧ x < 100 := by
  refine ⟨by rw [plan_len h]; exact h.2.2.1, fun x hx => ?_⟩
  refine ⟨plan_nonneg (n := 5) h x hx, ?_⟩
  obtain ⟨k, hk⟩ := List.getElem?_of_mem hx
  have hkl : k < xs.length := by
    have := (List.getElem?_eq_some_iff.1 hk).1
    rw [plan_len h] at this
    exact this
  have h1 := (plan_all (n := 5) h).2 k _ x (List.getElem?_eq_getElem hkl) hk
  have h2 := (taken_bd xs (xs[k]).a (xs[k]).c).2
  have h3 := h.2.2.1
  omega
section
variable (Ar : Option Addr) (nr cr : Nat) (An : Option Addr) (nn cn : Nat) (Ab : Option Addr) (nb cb : Nat) (s : LSt) (B : Option Addr) (n c : Nat)
set_option maxRecDepth 20000 in
set_option maxHeartbeats 3200000 in
theorem l10Ask_far (x y : List UInt8) (w : World) (hR : SlE 3 enc3 w Ar nr s.roads) (hNt : NetS w An nn s.net) (hB : SlE 3 encB w Ab nb s.list) (hok : StOk s) (hw : SlE 1 encS w B n (([102, 97, 114] :: [x, y]).map bs)) (hn : n ≤ 1002) :
    Calls Tryz.prog 77 #[.agg #[.slice Ar nr cr, .slice An nn cn, .slice Ab nb cb], .slice B n c] w (Only (.string (bs (saidL (Lib.itoa (farV 6 s.roads (numL x) (numL y))) (decide (0 ≤ farV 6 s.roads (numL x) (numL y)))))) w) := by
  obtain rfl : n = 3 := by rw [← hw.len]; simp
  obtain ⟨b, off, wx, rfl, hbl, hx, -, g0⟩ := atS hw (Below.refl _ _) (show 0 < 3 by omega)
  obtain rfl : wx = ⟨#[102, 97, 114]⟩ := (Option.some.inj hx).symm
  have hr16 := hok.1.2.2.1
  have hn6 := hok.2.1.2.2.1
  have hb16 := hok.2.2.2.2.1
  rw [hR.len] at hr16
  rw [hNt.len] at hn6
  rw [hB.len] at hb16
  rw [Nat.add_zero] at g0
  have B1 := Lib.hid (below_alloc (Below.refl w.heap.size w) (.cells #[.slice Ar nr cr, .slice An nn cn, .slice Ab nb cb] 66))
  have HC1 := Lib.hid (show (w.alloc (.cells #[.slice Ar nr cr, .slice An nn cn, .slice Ab nb cb] 66)).cell? ⟨w.heap.size, 0, none⟩ = some (.slice Ar nr cr) ∧ (w.alloc (.cells #[.slice Ar nr cr, .slice An nn cn, .slice Ab nb cb] 66)).cell? ⟨w.heap.size, 1, none⟩ = some (.slice An nn cn) ∧ (w.alloc (.cells #[.slice Ar nr cr, .slice An nn cn, .slice Ab nb cb] 66)).cell? ⟨w.heap.size, 2, none⟩ = some (.slice Ab nb cb) ∧ (w.alloc (.cells #[.slice Ar nr cr, .slice An nn cn, .slice Ab nb cb] 66)).cell? ⟨b, off, none⟩ = some (.string ⟨#[102, 97, 114]⟩) from ⟨by simp, by simp, by simp, cell_below B1.out g0⟩)
  have HNM := Lib.hid (l10Numbers_any (some ⟨b, off, none⟩) 3 c [102, 97, 114] [x, y] _ (hw.below B1.out) hn)
  have HRD := Lib.hid hR
  have HNT := Lib.hid hNt
  have HBK := Lib.hid hB
  have HOK := Lib.hid hok
  clear hR hNt hB hok hw hx g0
  have HCALL := Lib.hid (fun (A2 : Option Addr) (c2 : Nat) W (hW : Below w.heap.size w W) (hsl : SlE 1 encI W A2 2 [numL x, numL y]) => l10Far_any Ar nr cr (.slice An nn cn) (.slice Ab nb cb) A2 c2 s.roads (numL x) (numL y) W (HRD.out.below hW) (by omega) hsl)
  generalize bs (saidL (Lib.itoa (farV 6 s.roads (numL x) (numL y))) (decide (0 ≤ farV 6 s.roads (numL x) (numL y)))) = T1 at *
  go_enter Tryz.func77, Tryz.ntmps77
  go_wp2_with fail
  refine HNM.out.mono ?_
  rintro e w2 ⟨v, rfl, hown, hb2⟩
  obtain ⟨A2, c2, rfl, hsl2, -⟩ := hown.slc encI_len (n := 2) (by simp)
  have HC2 := Lib.hid (cells4_below hb2 HC1.out)
  have HB2 := Lib.hid (below_trans B1.out hb2)
  have HSL2 := Lib.hid hsl2
  obtain ⟨k0, k1, k2, k3⟩ := HC2.out
  clear hown hb2 hsl2 HC1 HNM B1
  have HC3 := Lib.hid (show w2.drew.cell? ⟨w.heap.size, 0, none⟩ = some (.slice Ar nr cr) ∧ w2.drew.cell? ⟨w.heap.size, 1, none⟩ = some (.slice An nn cn) ∧ w2.drew.cell? ⟨w.heap.size, 2, none⟩ = some (.slice Ab nb cb) ∧ w2.drew.cell? ⟨b, off, none⟩ = some (.string ⟨#[102, 97, 114]⟩) from HC2.out)
  go_wp2_with fail
  go_region_held3 (fun w' => w'.cell? ⟨w.heap.size, 0, none⟩ = some (.slice Ar nr cr) ∧ w'.cell? ⟨w.heap.size, 1, none⟩ = some (.slice An nn cn) ∧ w'.cell? ⟨w.heap.size, 2, none⟩ = some (.slice Ab nb cb) ∧ w'.cell? ⟨b, off, none⟩ = some (.string ⟨#[102, 97, 114]⟩))
    (first | exact HC3.out | exact CZ3.out | fail)
    (first
      | (go_at_call 111; (with_reducible_and_instances refine (HCALL.out _ _ _ (below_drew HB2.out) (HSL2.out.drew)).mono ?_); rintro e w3 ⟨rfl, hb3⟩; have HB3 := Lib.hid (below_trans (below_drew HB2.out) hb3); have CZ3 := Lib.hid (cells4_below hb3 HC3.out); clear hb3)
      | fail)
  go_wp2_with fail
  go_ret
  exact ⟨rfl, HB3.out⟩
set_option maxRecDepth 20000 in
set_option maxHeartbeats 3200000 in
theorem l10Ask_way (x y : List UInt8) (w : World) (hR : SlE 3 enc3 w Ar nr s.roads) (hNt : NetS w An nn s.net) (hB : SlE 3 encB w Ab nb s.list) (hok : StOk s) (hw : SlE 1 encS w B n (([119, 97, 121] :: [x, y]).map bs)) (hn : n ≤ 1002) :
    Calls Tryz.prog 77 #[.agg #[.slice Ar nr cr, .slice An nn cn, .slice Ab nb cb], .slice B n c] w (Only (.string (bs (saidL (spacedL (wayV 6 s.roads (numL x) (numL y))) (decide (0 ≤ farV 6 s.roads (numL x) (numL y)))))) w) := by
  obtain rfl : n = 3 := by rw [← hw.len]; simp
  obtain ⟨b, off, wx, rfl, hbl, hx, -, g0⟩ := atS hw (Below.refl _ _) (show 0 < 3 by omega)
  obtain rfl : wx = ⟨#[119, 97, 121]⟩ := (Option.some.inj hx).symm
  have hr16 := hok.1.2.2.1
  have hn6 := hok.2.1.2.2.1
  have hb16 := hok.2.2.2.2.1
  rw [hR.len] at hr16
  rw [hNt.len] at hn6
  rw [hB.len] at hb16
  rw [Nat.add_zero] at g0
  have B1 := Lib.hid (below_alloc (Below.refl w.heap.size w) (.cells #[.slice Ar nr cr, .slice An nn cn, .slice Ab nb cb] 66))
  have HC1 := Lib.hid (show (w.alloc (.cells #[.slice Ar nr cr, .slice An nn cn, .slice Ab nb cb] 66)).cell? ⟨w.heap.size, 0, none⟩ = some (.slice Ar nr cr) ∧ (w.alloc (.cells #[.slice Ar nr cr, .slice An nn cn, .slice Ab nb cb] 66)).cell? ⟨w.heap.size, 1, none⟩ = some (.slice An nn cn) ∧ (w.alloc (.cells #[.slice Ar nr cr, .slice An nn cn, .slice Ab nb cb] 66)).cell? ⟨w.heap.size, 2, none⟩ = some (.slice Ab nb cb) ∧ (w.alloc (.cells #[.slice Ar nr cr, .slice An nn cn, .slice Ab nb cb] 66)).cell? ⟨b, off, none⟩ = some (.string ⟨#[119, 97, 121]⟩) from ⟨by simp, by simp, by simp, cell_below B1.out g0⟩)
  have HNM := Lib.hid (l10Numbers_any (some ⟨b, off, none⟩) 3 c [119, 97, 121] [x, y] _ (hw.below B1.out) hn)
  have HRD := Lib.hid hR
  have HNT := Lib.hid hNt
  have HBK := Lib.hid hB
  have HOK := Lib.hid hok
  clear hR hNt hB hok hw hx g0
  have HCALL := Lib.hid (fun (A2 : Option Addr) (c2 : Nat) W (hW : Below w.heap.size w W) (hsl : SlE 1 encI W A2 2 [numL x, numL y]) => l10Way_any Ar nr cr (.slice An nn cn) (.slice Ab nb cb) A2 c2 s.roads (numL x) (numL y) W (HRD.out.below hW) (by omega) hsl)
  generalize bs (saidL (spacedL (wayV 6 s.roads (numL x) (numL y))) (decide (0 ≤ farV 6 s.roads (numL x) (numL y)))) = T1 at *
  go_enter Tryz.func77, Tryz.ntmps77
  go_wp2_with fail
  refine HNM.out.mono ?_
  rintro e w2 ⟨v, rfl, hown, hb2⟩
  obtain ⟨A2, c2, rfl, hsl2, -⟩ := hown.slc encI_len (n := 2) (by simp)
  have HC2 := Lib.hid (cells4_below hb2 HC1.out)
  have HB2 := Lib.hid (below_trans B1.out hb2)
  have HSL2 := Lib.hid hsl2
  obtain ⟨k0, k1, k2, k3⟩ := HC2.out
  clear hown hb2 hsl2 HC1 HNM B1
  have HC3 := Lib.hid (show w2.drew.cell? ⟨w.heap.size, 0, none⟩ = some (.slice Ar nr cr) ∧ w2.drew.cell? ⟨w.heap.size, 1, none⟩ = some (.slice An nn cn) ∧ w2.drew.cell? ⟨w.heap.size, 2, none⟩ = some (.slice Ab nb cb) ∧ w2.drew.cell? ⟨b, off, none⟩ = some (.string ⟨#[119, 97, 121]⟩) from HC2.out)
  go_wp2_with fail
  go_region_held3 (fun w' => w'.cell? ⟨w.heap.size, 0, none⟩ = some (.slice Ar nr cr) ∧ w'.cell? ⟨w.heap.size, 1, none⟩ = some (.slice An nn cn) ∧ w'.cell? ⟨w.heap.size, 2, none⟩ = some (.slice Ab nb cb) ∧ w'.cell? ⟨b, off, none⟩ = some (.string ⟨#[119, 97, 121]⟩))
    (first | exact HC3.out | exact CZ3.out | fail)
    (first
      | (go_at_call 111; (with_reducible_and_instances refine (HCALL.out _ _ _ (below_drew HB2.out) (HSL2.out.drew)).mono ?_); rintro e w3 ⟨rfl, hb3⟩; have HB3 := Lib.hid (below_trans (below_drew HB2.out) hb3); have CZ3 := Lib.hid (cells4_below hb3 HC3.out); clear hb3)
      | fail)
  go_wp2_with fail
  go_ret
  exact ⟨rfl, HB3.out⟩
set_option maxRecDepth 20000 in
set_option maxHeartbeats 3200000 in
theorem l10Ask_coaches  (w : World) (hR : SlE 3 enc3 w Ar nr s.roads) (hNt : NetS w An nn s.net) (hB : SlE 3 encB w Ab nb s.list) (hok : StOk s) (hw : SlE 1 encS w B n (([99, 111, 97, 99, 104, 101, 115] :: ([] : List (List UInt8))).map bs)) (hn : n ≤ 1002) :
    Calls Tryz.prog 77 #[.agg #[.slice Ar nr cr, .slice An nn cn, .slice Ab nb cb], .slice B n c] w (Only (.string (bs (textOf (s.net.map stopsL)))) w) := by
  obtain rfl : n = 1 := by rw [← hw.len]; simp
  obtain ⟨b, off, wx, rfl, hbl, hx, -, g0⟩ := atS hw (Below.refl _ _) (show 0 < 1 by omega)
  obtain rfl : wx = ⟨#[99, 111, 97, 99, 104, 101, 115]⟩ := (Option.some.inj hx).symm
  have hr16 := hok.1.2.2.1
  have hn6 := hok.2.1.2.2.1
  have hb16 := hok.2.2.2.2.1
  rw [hR.len] at hr16
  rw [hNt.len] at hn6
  rw [hB.len] at hb16
  rw [Nat.add_zero] at g0
  have B1 := Lib.hid (below_alloc (Below.refl w.heap.size w) (.cells #[.slice Ar nr cr, .slice An nn cn, .slice Ab nb cb] 66))
  have HC1 := Lib.hid (show (w.alloc (.cells #[.slice Ar nr cr, .slice An nn cn, .slice Ab nb cb] 66)).cell? ⟨w.heap.size, 0, none⟩ = some (.slice Ar nr cr) ∧ (w.alloc (.cells #[.slice Ar nr cr, .slice An nn cn, .slice Ab nb cb] 66)).cell? ⟨w.heap.size, 1, none⟩ = some (.slice An nn cn) ∧ (w.alloc (.cells #[.slice Ar nr cr, .slice An nn cn, .slice Ab nb cb] 66)).cell? ⟨w.heap.size, 2, none⟩ = some (.slice Ab nb cb) ∧ (w.alloc (.cells #[.slice Ar nr cr, .slice An nn cn, .slice Ab nb cb] 66)).cell? ⟨b, off, none⟩ = some (.string ⟨#[99, 111, 97, 99, 104, 101, 115]⟩) from ⟨by simp, by simp, by simp, cell_below B1.out g0⟩)
  have HNM := Lib.hid (l10Numbers_any (some ⟨b, off, none⟩) 1 c [99, 111, 97, 99, 104, 101, 115] ([] : List (List UInt8)) _ (hw.below B1.out) hn)
  have HRD := Lib.hid hR
  have HNT := Lib.hid hNt
  have HBK := Lib.hid hB
  have HOK := Lib.hid hok
  clear hR hNt hB hok hw hx g0
  have HCALL := Lib.hid (fun W (hW : Below w.heap.size w W) => l10Coaches_any An nn cn s.net W (HNT.out.below hW) HOK.out.2.1)
  generalize bs (textOf (s.net.map stopsL)) = T1 at *
  go_enter Tryz.func77, Tryz.ntmps77
  go_wp2_with fail
  refine HNM.out.mono ?_
  rintro e w2 ⟨v, rfl, hown, hb2⟩
  obtain ⟨A2, c2, rfl, hsl2, -⟩ := hown.slc encI_len (n := 0) (by simp)
  have HC2 := Lib.hid (cells4_below hb2 HC1.out)
  have HB2 := Lib.hid (below_trans B1.out hb2)
  have HSL2 := Lib.hid hsl2
  obtain ⟨k0, k1, k2, k3⟩ := HC2.out
  clear hown hb2 hsl2 HC1 HNM B1
  go_wp2_with fail
  refine (HCALL.out _ HB2.out).mono ?_
  rintro e w3 ⟨rfl, hb3⟩
  have HB3 := Lib.hid (below_trans HB2.out hb3)
  clear hb3
  go_wp2_with fail
  go_ret
  exact ⟨rfl, HB3.out⟩
set_option maxRecDepth 20000 in
set_option maxHeartbeats 3200000 in
theorem l10Ask_post (x y z u : List UInt8) (w : World) (hR : SlE 3 enc3 w Ar nr s.roads) (hNt : NetS w An nn s.net) (hB : SlE 3 encB w Ab nb s.list) (hok : StOk s) (hw : SlE 1 encS w B n (([112, 111, 115, 116] :: [x, y, z, u]).map bs)) (hn : n ≤ 1002) :
    Calls Tryz.prog 77 #[.agg #[.slice Ar nr cr, .slice An nn cn, .slice Ab nb cb], .slice B n c] w (Only (.string (bs (saidL (Lib.itoa (postV 6 s.net (numL x) (numL y) (numL z) (numL u))) (decide (0 ≤ postV 6 s.net (numL x) (numL y) (numL z) (numL u)))))) w) := by
  obtain rfl : n = 5 := by rw [← hw.len]; simp
  obtain ⟨b, off, wx, rfl, hbl, hx, -, g0⟩ := atS hw (Below.refl _ _) (show 0 < 5 by omega)
  obtain rfl : wx = ⟨#[112, 111, 115, 116]⟩ := (Option.some.inj hx).symm
  have hr16 := hok.1.2.2.1
  have hn6 := hok.2.1.2.2.1
  have hb16 := hok.2.2.2.2.1
  rw [hR.len] at hr16
  rw [hNt.len] at hn6
  rw [hB.len] at hb16
  rw [Nat.add_zero] at g0
  have B1 := Lib.hid (below_alloc (Below.refl w.heap.size w) (.cells #[.slice Ar nr cr, .slice An nn cn, .slice Ab nb cb] 66))
  have HC1 := Lib.hid (show (w.alloc (.cells #[.slice Ar nr cr, .slice An nn cn, .slice Ab nb cb] 66)).cell? ⟨w.heap.size, 0, none⟩ = some (.slice Ar nr cr) ∧ (w.alloc (.cells #[.slice Ar nr cr, .slice An nn cn, .slice Ab nb cb] 66)).cell? ⟨w.heap.size, 1, none⟩ = some (.slice An nn cn) ∧ (w.alloc (.cells #[.slice Ar nr cr, .slice An nn cn, .slice Ab nb cb] 66)).cell? ⟨w.heap.size, 2, none⟩ = some (.slice Ab nb cb) ∧ (w.alloc (.cells #[.slice Ar nr cr, .slice An nn cn, .slice Ab nb cb] 66)).cell? ⟨b, off, none⟩ = some (.string ⟨#[112, 111, 115, 116]⟩) from ⟨by simp, by simp, by simp, cell_below B1.out g0⟩)
  have HNM := Lib.hid (l10Numbers_any (some ⟨b, off, none⟩) 5 c [112, 111, 115, 116] [x, y, z, u] _ (hw.below B1.out) hn)
  have HRD := Lib.hid hR
  have HNT := Lib.hid hNt
  have HBK := Lib.hid hB
  have HOK := Lib.hid hok
  clear hR hNt hB hok hw hx g0
  have HCALL := Lib.hid (fun (A2 : Option Addr) (c2 : Nat) W (hW : Below w.heap.size w W) (hsl : SlE 1 encI W A2 4 [numL x, numL y, numL z, numL u]) => l10Post_any An nn cn A2 c2 s.net (numL x) (numL y) (numL z) (numL u) W (HNT.out.below hW) (by omega) (netOk_len HOK.out.2.1) hsl)
  generalize bs (saidL (Lib.itoa (postV 6 s.net (numL x) (numL y) (numL z) (numL u))) (decide (0 ≤ postV 6 s.net (numL x) (numL y) (numL z) (numL u)))) = T1 at *
  go_enter Tryz.func77, Tryz.ntmps77
  go_wp2_with fail
  refine HNM.out.mono ?_
  rintro e w2 ⟨v, rfl, hown, hb2⟩
  obtain ⟨A2, c2, rfl, hsl2, -⟩ := hown.slc encI_len (n := 4) (by simp)
  have HC2 := Lib.hid (cells4_below hb2 HC1.out)
  have HB2 := Lib.hid (below_trans B1.out hb2)
  have HSL2 := Lib.hid hsl2
  obtain ⟨k0, k1, k2, k3⟩ := HC2.out
  clear hown hb2 hsl2 HC1 HNM B1
  go_wp2_with fail
  refine (HCALL.out _ _ _ HB2.out HSL2.out).mono ?_
  rintro e w3 ⟨rfl, hb3⟩
  have HB3 := Lib.hid (below_trans HB2.out hb3)
  clear hb3
  go_wp2_with fail
  go_ret
  exact ⟨rfl, HB3.out⟩
set_option maxRecDepth 20000 in
set_option maxHeartbeats 3200000 in
theorem l10Ask_ride (x y z u : List UInt8) (w : World) (hR : SlE 3 enc3 w Ar nr s.roads) (hNt : NetS w An nn s.net) (hB : SlE 3 encB w Ab nb s.list) (hok : StOk s) (hw : SlE 1 encS w B n (([114, 105, 100, 101] :: [x, y, z, u]).map bs)) (hn : n ≤ 1002) :
    Calls Tryz.prog 77 #[.agg #[.slice Ar nr cr, .slice An nn cn, .slice Ab nb cb], .slice B n c] w (Only (.string (bs (saidL (ridesL (rideV 6 s.net (numL x) (numL y) (numL z) (numL u))) (decide (0 ≤ postV 6 s.net (numL x) (numL y) (numL z) (numL u)))))) w) := by
  obtain rfl : n = 5 := by rw [← hw.len]; simp
  obtain ⟨b, off, wx, rfl, hbl, hx, -, g0⟩ := atS hw (Below.refl _ _) (show 0 < 5 by omega)
  obtain rfl : wx = ⟨#[114, 105, 100, 101]⟩ := (Option.some.inj hx).symm
  have hr16 := hok.1.2.2.1
  have hn6 := hok.2.1.2.2.1
  have hb16 := hok.2.2.2.2.1
  rw [hR.len] at hr16
  rw [hNt.len] at hn6
  rw [hB.len] at hb16
  rw [Nat.add_zero] at g0
  have B1 := Lib.hid (below_alloc (Below.refl w.heap.size w) (.cells #[.slice Ar nr cr, .slice An nn cn, .slice Ab nb cb] 66))
  have HC1 := Lib.hid (show (w.alloc (.cells #[.slice Ar nr cr, .slice An nn cn, .slice Ab nb cb] 66)).cell? ⟨w.heap.size, 0, none⟩ = some (.slice Ar nr cr) ∧ (w.alloc (.cells #[.slice Ar nr cr, .slice An nn cn, .slice Ab nb cb] 66)).cell? ⟨w.heap.size, 1, none⟩ = some (.slice An nn cn) ∧ (w.alloc (.cells #[.slice Ar nr cr, .slice An nn cn, .slice Ab nb cb] 66)).cell? ⟨w.heap.size, 2, none⟩ = some (.slice Ab nb cb) ∧ (w.alloc (.cells #[.slice Ar nr cr, .slice An nn cn, .slice Ab nb cb] 66)).cell? ⟨b, off, none⟩ = some (.string ⟨#[114, 105, 100, 101]⟩) from ⟨by simp, by simp, by simp, cell_below B1.out g0⟩)
  have HNM := Lib.hid (l10Numbers_any (some ⟨b, off, none⟩) 5 c [114, 105, 100, 101] [x, y, z, u] _ (hw.below B1.out) hn)
  have HRD := Lib.hid hR
  have HNT := Lib.hid hNt
  have HBK := Lib.hid hB
  have HOK := Lib.hid hok
  clear hR hNt hB hok hw hx g0
  have HCALL := Lib.hid (fun (A2 : Option Addr) (c2 : Nat) W (hW : Below w.heap.size w W) (hsl : SlE 1 encI W A2 4 [numL x, numL y, numL z, numL u]) => l10Ride_any An nn cn A2 c2 s.net (numL x) (numL y) (numL z) (numL u) W (HNT.out.below hW) (by omega) (netOk_len HOK.out.2.1) hsl)
  generalize bs (saidL (ridesL (rideV 6 s.net (numL x) (numL y) (numL z) (numL u))) (decide (0 ≤ postV 6 s.net (numL x) (numL y) (numL z) (numL u)))) = T1 at *
  go_enter Tryz.func77, Tryz.ntmps77
  go_wp2_with fail
  refine HNM.out.mono ?_
  rintro e w2 ⟨v, rfl, hown, hb2⟩
  obtain ⟨A2, c2, rfl, hsl2, -⟩ := hown.slc encI_len (n := 4) (by simp)
  have HC2 := Lib.hid (cells4_below hb2 HC1.out)
  have HB2 := Lib.hid (below_trans B1.out hb2)
  have HSL2 := Lib.hid hsl2
  obtain ⟨k0, k1, k2, k3⟩ := HC2.out
  clear hown hb2 hsl2 HC1 HNM B1
  go_wp2_with fail
  refine (HCALL.out _ _ _ HB2.out HSL2.out).mono ?_
  rintro e w3 ⟨rfl, hb3⟩
  have HB3 := Lib.hid (below_trans HB2.out hb3)
  clear hb3
  go_wp2_with fail
  go_ret
  exact ⟨rfl, HB3.out⟩
set_option maxRecDepth 20000 in
set_option maxHeartbeats 3200000 in
theorem l10Ask_seats  (w : World) (hR : SlE 3 enc3 w Ar nr s.roads) (hNt : NetS w An nn s.net) (hB : SlE 3 encB w Ab nb s.list) (hok : StOk s) (hw : SlE 1 encS w B n (([115, 101, 97, 116, 115] :: ([] : List (List UInt8))).map bs)) (hn : n ≤ 1002) :
    Calls Tryz.prog 77 #[.agg #[.slice Ar nr cr, .slice An nn cn, .slice Ab nb cb], .slice B n c] w (Only (.string (bs (saidL (spacedL (plan s.list 5)) true))) w) := by
  obtain rfl : n = 1 := by rw [← hw.len]; simp
  obtain ⟨b, off, wx, rfl, hbl, hx, -, g0⟩ := atS hw (Below.refl _ _) (show 0 < 1 by omega)
  obtain rfl : wx = ⟨#[115, 101, 97, 116, 115]⟩ := (Option.some.inj hx).symm
  have hr16 := hok.1.2.2.1
  have hn6 := hok.2.1.2.2.1
  have hb16 := hok.2.2.2.2.1
  rw [hR.len] at hr16
  rw [hNt.len] at hn6
  rw [hB.len] at hb16
  rw [Nat.add_zero] at g0
  have B1 := Lib.hid (below_alloc (Below.refl w.heap.size w) (.cells #[.slice Ar nr cr, .slice An nn cn, .slice Ab nb cb] 66))
  have HC1 := Lib.hid (show (w.alloc (.cells #[.slice Ar nr cr, .slice An nn cn, .slice Ab nb cb] 66)).cell? ⟨w.heap.size, 0, none⟩ = some (.slice Ar nr cr) ∧ (w.alloc (.cells #[.slice Ar nr cr, .slice An nn cn, .slice Ab nb cb] 66)).cell? ⟨w.heap.size, 1, none⟩ = some (.slice An nn cn) ∧ (w.alloc (.cells #[.slice Ar nr cr, .slice An nn cn, .slice Ab nb cb] 66)).cell? ⟨w.heap.size, 2, none⟩ = some (.slice Ab nb cb) ∧ (w.alloc (.cells #[.slice Ar nr cr, .slice An nn cn, .slice Ab nb cb] 66)).cell? ⟨b, off, none⟩ = some (.string ⟨#[115, 101, 97, 116, 115]⟩) from ⟨by simp, by simp, by simp, cell_below B1.out g0⟩)
  have HNM := Lib.hid (l10Numbers_any (some ⟨b, off, none⟩) 1 c [115, 101, 97, 116, 115] ([] : List (List UInt8)) _ (hw.below B1.out) hn)
  have HRD := Lib.hid hR
  have HNT := Lib.hid hNt
  have HBK := Lib.hid hB
  have HOK := Lib.hid hok
  clear hR hNt hB hok hw hx g0
  have HCALL := Lib.hid (show ∀ W, Below w.heap.size w W → Calls Tryz.prog 17 #[.int .i64 5, .slice Ab nb cb] W (RetOwnB 1 encI 3 (plan s.list 5) true W) from fun W hW => specSeatingMake_yes Ab 5 nb cb s.list W (HBK.out.below hW) HOK.out.2.2)
  have HPB := Lib.hid (plan_bd HOK.out.2.2)
  generalize plan s.list 5 = ns at *
  go_enter Tryz.func77, Tryz.ntmps77
  go_wp2_with fail
  refine HNM.out.mono ?_
  rintro e w2 ⟨v, rfl, hown, hb2⟩
  obtain ⟨A2, c2, rfl, hsl2, -⟩ := hown.slc encI_len (n := 0) (by simp)
  have HC2 := Lib.hid (cells4_below hb2 HC1.out)
  have HB2 := Lib.hid (below_trans B1.out hb2)
  have HSL2 := Lib.hid hsl2
  obtain ⟨k0, k1, k2, k3⟩ := HC2.out
  clear hown hb2 hsl2 HC1 HNM B1
  go_wp2_with fail
  refine (HCALL.out _ HB2.out).mono ?_
  rintro e w3 ⟨v3, rfl, hown3, hb3⟩
  obtain ⟨m3, hm3⟩ : ∃ m3, ns.length = m3 := ⟨_, rfl⟩
  obtain ⟨A3, c3, rfl, hsl3, -⟩ := hown3.slc encI_len hm3
  have HLS := Lib.hid (l10List_any A3 m3 c3 ns true w3 hsl3 (by have := HPB.out.1; omega) HPB.out.2)
  generalize bs (saidL (spacedL ns) true) = T1 at *
  have HB3 := Lib.hid (below_trans HB2.out hb3)
  clear hb3 hown3 hsl3 hm3
  go_wp2_with fail
  refine HLS.out.mono ?_
  rintro e w4 ⟨rfl, hb4⟩
  have HB4 := Lib.hid (below_trans HB3.out hb4)
  clear hb4
  go_wp2_with fail
  go_ret
  exact ⟨rfl, HB4.out⟩
set_option maxRecDepth 20000 in
set_option maxHeartbeats 3200000 in
theorem l10Ask_no_far (ws : List (List UInt8)) (hm : ws.length ≠ 2) (w : World) (hR : SlE 3 enc3 w Ar nr s.roads) (hNt : NetS w An nn s.net) (hB : SlE 3 encB w Ab nb s.list) (hok : StOk s) (hw : SlE 1 encS w B n (([102, 97, 114] :: ws).map bs)) (hn : n ≤ 1002) :
    Calls Tryz.prog 77 #[.agg #[.slice Ar nr cr, .slice An nn cn, .slice Ab nb cb], .slice B n c] w (Only (.string ⟨#[119, 104, 97, 116, 10]⟩) w) := by
  obtain ⟨m, hm0⟩ : ∃ m, ws.length = m := ⟨_, rfl⟩
  obtain rfl : n = m + 1 := by rw [← hw.len, ← hm0]; simp
  have HM0 := Lib.hid hm0
  obtain ⟨b, off, wx, rfl, hbl, hx, -, g0⟩ := atS hw (Below.refl _ _) (show 0 < m + 1 by omega)
  obtain rfl : wx = ⟨#[102, 97, 114]⟩ := (Option.some.inj hx).symm
  have hr16 := hok.1.2.2.1
  have hn6 := hok.2.1.2.2.1
  have hb16 := hok.2.2.2.2.1
  rw [hR.len] at hr16
  rw [hNt.len] at hn6
  rw [hB.len] at hb16
  rw [Nat.add_zero] at g0
  have B1 := Lib.hid (below_alloc (Below.refl w.heap.size w) (.cells #[.slice Ar nr cr, .slice An nn cn, .slice Ab nb cb] 66))
  have HC1 := Lib.hid (show (w.alloc (.cells #[.slice Ar nr cr, .slice An nn cn, .slice Ab nb cb] 66)).cell? ⟨w.heap.size, 0, none⟩ = some (.slice Ar nr cr) ∧ (w.alloc (.cells #[.slice Ar nr cr, .slice An nn cn, .slice Ab nb cb] 66)).cell? ⟨w.heap.size, 1, none⟩ = some (.slice An nn cn) ∧ (w.alloc (.cells #[.slice Ar nr cr, .slice An nn cn, .slice Ab nb cb] 66)).cell? ⟨w.heap.size, 2, none⟩ = some (.slice Ab nb cb) ∧ (w.alloc (.cells #[.slice Ar nr cr, .slice An nn cn, .slice Ab nb cb] 66)).cell? ⟨b, off, none⟩ = some (.string ⟨#[102, 97, 114]⟩) from ⟨by simp, by simp, by simp, cell_below B1.out g0⟩)
  have HNM := Lib.hid (l10Numbers_any (some ⟨b, off, none⟩) (m + 1) c [102, 97, 114] ws _ (hw.below B1.out) hn)
  have HRD := Lib.hid hR
  have HNT := Lib.hid hNt
  have HBK := Lib.hid hB
  have HOK := Lib.hid hok
  clear hR hNt hB hok hw hx g0
  have hmz : ((m : Int) == 2) = false := by rw [hm0] at hm; simp; omega
  clear hm
  clear hm0
  go_enter Tryz.func77, Tryz.ntmps77
  go_wp2_with fail
  refine HNM.out.mono ?_
  rintro e w2 ⟨v, rfl, hown, hb2⟩
  obtain ⟨A2, c2, rfl, hsl2, -⟩ := hown.slc encI_len (n := m) (by rw [List.length_map]; exact HM0.out)
  have HC2 := Lib.hid (cells4_below hb2 HC1.out)
  have HB2 := Lib.hid (below_trans B1.out hb2)
  obtain ⟨k0, k1, k2, k3⟩ := HC2.out
  clear hown hb2 hsl2 HC1 HNM B1
  go_wp2_with fail
  go_ret
  exact ⟨rfl, HB2.out⟩
set_option maxRecDepth 20000 in
set_option maxHeartbeats 3200000 in
theorem l10Ask_no_way (ws : List (List UInt8)) (hm : ws.length ≠ 2) (w : World) (hR : SlE 3 enc3 w Ar nr s.roads) (hNt : NetS w An nn s.net) (hB : SlE 3 encB w Ab nb s.list) (hok : StOk s) (hw : SlE 1 encS w B n (([119, 97, 121] :: ws).map bs)) (hn : n ≤ 1002) :
    Calls Tryz.prog 77 #[.agg #[.slice Ar nr cr, .slice An nn cn, .slice Ab nb cb], .slice B n c] w (Only (.string ⟨#[119, 104, 97, 116, 10]⟩) w) := by
  obtain ⟨m, hm0⟩ : ∃ m, ws.length = m := ⟨_, rfl⟩
  obtain rfl : n = m + 1 := by rw [← hw.len, ← hm0]; simp
  have HM0 := Lib.hid hm0
  obtain ⟨b, off, wx, rfl, hbl, hx, -, g0⟩ := atS hw (Below.refl _ _) (show 0 < m + 1 by omega)
  obtain rfl : wx = ⟨#[119, 97, 121]⟩ := (Option.some.inj hx).symm
  have hr16 := hok.1.2.2.1
  have hn6 := hok.2.1.2.2.1
  have hb16 := hok.2.2.2.2.1
  rw [hR.len] at hr16
  rw [hNt.len] at hn6
  rw [hB.len] at hb16
  rw [Nat.add_zero] at g0
  have B1 := Lib.hid (below_alloc (Below.refl w.heap.size w) (.cells #[.slice Ar nr cr, .slice An nn cn, .slice Ab nb cb] 66))
  have HC1 := Lib.hid (show (w.alloc (.cells #[.slice Ar nr cr, .slice An nn cn, .slice Ab nb cb] 66)).cell? ⟨w.heap.size, 0, none⟩ = some (.slice Ar nr cr) ∧ (w.alloc (.cells #[.slice Ar nr cr, .slice An nn cn, .slice Ab nb cb] 66)).cell? ⟨w.heap.size, 1, none⟩ = some (.slice An nn cn) ∧ (w.alloc (.cells #[.slice Ar nr cr, .slice An nn cn, .slice Ab nb cb] 66)).cell? ⟨w.heap.size, 2, none⟩ = some (.slice Ab nb cb) ∧ (w.alloc (.cells #[.slice Ar nr cr, .slice An nn cn, .slice Ab nb cb] 66)).cell? ⟨b, off, none⟩ = some (.string ⟨#[119, 97, 121]⟩) from ⟨by simp, by simp, by simp, cell_below B1.out g0⟩)
  have HNM := Lib.hid (l10Numbers_any (some ⟨b, off, none⟩) (m + 1) c [119, 97, 121] ws _ (hw.below B1.out) hn)
  have HRD := Lib.hid hR
  have HNT := Lib.hid hNt
  have HBK := Lib.hid hB
  have HOK := Lib.hid hok
  clear hR hNt hB hok hw hx g0
  have hmz : ((m : Int) == 2) = false := by rw [hm0] at hm; simp; omega
  clear hm
  clear hm0
  go_enter Tryz.func77, Tryz.ntmps77
  go_wp2_with fail
  refine HNM.out.mono ?_
  rintro e w2 ⟨v, rfl, hown, hb2⟩
  obtain ⟨A2, c2, rfl, hsl2, -⟩ := hown.slc encI_len (n := m) (by rw [List.length_map]; exact HM0.out)
  have HC2 := Lib.hid (cells4_below hb2 HC1.out)
  have HB2 := Lib.hid (below_trans B1.out hb2)
  obtain ⟨k0, k1, k2, k3⟩ := HC2.out
  clear hown hb2 hsl2 HC1 HNM B1
  go_wp2_with fail
  go_ret
  exact ⟨rfl, HB2.out⟩
set_option maxRecDepth 20000 in
set_option maxHeartbeats 3200000 in
theorem l10Ask_no_coaches (ws : List (List UInt8)) (hm : ws.length ≠ 0) (w : World) (hR : SlE 3 enc3 w Ar nr s.roads) (hNt : NetS w An nn s.net) (hB : SlE 3 encB w Ab nb s.list) (hok : StOk s) (hw : SlE 1 encS w B n (([99, 111, 97, 99, 104, 101, 115] :: ws).map bs)) (hn : n ≤ 1002) :
    Calls Tryz.prog 77 #[.agg #[.slice Ar nr cr, .slice An nn cn, .slice Ab nb cb], .slice B n c] w (Only (.string ⟨#[119, 104, 97, 116, 10]⟩) w) := by
  obtain ⟨m, hm0⟩ : ∃ m, ws.length = m := ⟨_, rfl⟩
  obtain rfl : n = m + 1 := by rw [← hw.len, ← hm0]; simp
  have HM0 := Lib.hid hm0
  obtain ⟨b, off, wx, rfl, hbl, hx, -, g0⟩ := atS hw (Below.refl _ _) (show 0 < m + 1 by omega)
  obtain rfl : wx = ⟨#[99, 111, 97, 99, 104, 101, 115]⟩ := (Option.some.inj hx).symm
  have hr16 := hok.1.2.2.1
  have hn6 := hok.2.1.2.2.1
  have hb16 := hok.2.2.2.2.1
  rw [hR.len] at hr16
  rw [hNt.len] at hn6
  rw [hB.len] at hb16
  rw [Nat.add_zero] at g0
  have B1 := Lib.hid (below_alloc (Below.refl w.heap.size w) (.cells #[.slice Ar nr cr, .slice An nn cn, .slice Ab nb cb] 66))
  have HC1 := Lib.hid (show (w.alloc (.cells #[.slice Ar nr cr, .slice An nn cn, .slice Ab nb cb] 66)).cell? ⟨w.heap.size, 0, none⟩ = some (.slice Ar nr cr) ∧ (w.alloc (.cells #[.slice Ar nr cr, .slice An nn cn, .slice Ab nb cb] 66)).cell? ⟨w.heap.size, 1, none⟩ = some (.slice An nn cn) ∧ (w.alloc (.cells #[.slice Ar nr cr, .slice An nn cn, .slice Ab nb cb] 66)).cell? ⟨w.heap.size, 2, none⟩ = some (.slice Ab nb cb) ∧ (w.alloc (.cells #[.slice Ar nr cr, .slice An nn cn, .slice Ab nb cb] 66)).cell? ⟨b, off, none⟩ = some (.string ⟨#[99, 111, 97, 99, 104, 101, 115]⟩) from ⟨by simp, by simp, by simp, cell_below B1.out g0⟩)
  have HNM := Lib.hid (l10Numbers_any (some ⟨b, off, none⟩) (m + 1) c [99, 111, 97, 99, 104, 101, 115] ws _ (hw.below B1.out) hn)
  have HRD := Lib.hid hR
  have HNT := Lib.hid hNt
  have HBK := Lib.hid hB
  have HOK := Lib.hid hok
  clear hR hNt hB hok hw hx g0
  have hmz : ((m : Int) == 0) = false := by rw [hm0] at hm; simp; omega
  clear hm
  clear hm0
  go_enter Tryz.func77, Tryz.ntmps77
  go_wp2_with fail
  refine HNM.out.mono ?_
  rintro e w2 ⟨v, rfl, hown, hb2⟩
  obtain ⟨A2, c2, rfl, hsl2, -⟩ := hown.slc encI_len (n := m) (by rw [List.length_map]; exact HM0.out)
  have HC2 := Lib.hid (cells4_below hb2 HC1.out)
  have HB2 := Lib.hid (below_trans B1.out hb2)
  obtain ⟨k0, k1, k2, k3⟩ := HC2.out
  clear hown hb2 hsl2 HC1 HNM B1
  go_wp2_with fail
  go_ret
  exact ⟨rfl, HB2.out⟩
set_option maxRecDepth 20000 in
set_option maxHeartbeats 3200000 in
theorem l10Ask_no_post (ws : List (List UInt8)) (hm : ws.length ≠ 4) (w : World) (hR : SlE 3 enc3 w Ar nr s.roads) (hNt : NetS w An nn s.net) (hB : SlE 3 encB w Ab nb s.list) (hok : StOk s) (hw : SlE 1 encS w B n (([112, 111, 115, 116] :: ws).map bs)) (hn : n ≤ 1002) :
    Calls Tryz.prog 77 #[.agg #[.slice Ar nr cr, .slice An nn cn, .slice Ab nb cb], .slice B n c] w (Only (.string ⟨#[119, 104, 97, 116, 10]⟩) w) := by
  obtain ⟨m, hm0⟩ : ∃ m, ws.length = m := ⟨_, rfl⟩
  obtain rfl : n = m + 1 := by rw [← hw.len, ← hm0]; simp
  have HM0 := Lib.hid hm0
  obtain ⟨b, off, wx, rfl, hbl, hx, -, g0⟩ := atS hw (Below.refl _ _) (show 0 < m + 1 by omega)
  obtain rfl : wx = ⟨#[112, 111, 115, 116]⟩ := (Option.some.inj hx).symm
  have hr16 := hok.1.2.2.1
  have hn6 := hok.2.1.2.2.1
  have hb16 := hok.2.2.2.2.1
  rw [hR.len] at hr16
  rw [hNt.len] at hn6
  rw [hB.len] at hb16
  rw [Nat.add_zero] at g0
  have B1 := Lib.hid (below_alloc (Below.refl w.heap.size w) (.cells #[.slice Ar nr cr, .slice An nn cn, .slice Ab nb cb] 66))
  have HC1 := Lib.hid (show (w.alloc (.cells #[.slice Ar nr cr, .slice An nn cn, .slice Ab nb cb] 66)).cell? ⟨w.heap.size, 0, none⟩ = some (.slice Ar nr cr) ∧ (w.alloc (.cells #[.slice Ar nr cr, .slice An nn cn, .slice Ab nb cb] 66)).cell? ⟨w.heap.size, 1, none⟩ = some (.slice An nn cn) ∧ (w.alloc (.cells #[.slice Ar nr cr, .slice An nn cn, .slice Ab nb cb] 66)).cell? ⟨w.heap.size, 2, none⟩ = some (.slice Ab nb cb) ∧ (w.alloc (.cells #[.slice Ar nr cr, .slice An nn cn, .slice Ab nb cb] 66)).cell? ⟨b, off, none⟩ = some (.string ⟨#[112, 111, 115, 116]⟩) from ⟨by simp, by simp, by simp, cell_below B1.out g0⟩)
  have HNM := Lib.hid (l10Numbers_any (some ⟨b, off, none⟩) (m + 1) c [112, 111, 115, 116] ws _ (hw.below B1.out) hn)
  have HRD := Lib.hid hR
  have HNT := Lib.hid hNt
  have HBK := Lib.hid hB
  have HOK := Lib.hid hok
  clear hR hNt hB hok hw hx g0
  have hmz : ((m : Int) == 4) = false := by rw [hm0] at hm; simp; omega
  clear hm
  clear hm0
  go_enter Tryz.func77, Tryz.ntmps77
  go_wp2_with fail
  refine HNM.out.mono ?_
  rintro e w2 ⟨v, rfl, hown, hb2⟩
  obtain ⟨A2, c2, rfl, hsl2, -⟩ := hown.slc encI_len (n := m) (by rw [List.length_map]; exact HM0.out)
  have HC2 := Lib.hid (cells4_below hb2 HC1.out)
  have HB2 := Lib.hid (below_trans B1.out hb2)
  obtain ⟨k0, k1, k2, k3⟩ := HC2.out
  clear hown hb2 hsl2 HC1 HNM B1
  go_wp2_with fail
  go_ret
  exact ⟨rfl, HB2.out⟩
set_option maxRecDepth 20000 in
set_option maxHeartbeats 3200000 in
theorem l10Ask_no_ride (ws : List (List UInt8)) (hm : ws.length ≠ 4) (w : World) (hR : SlE 3 enc3 w Ar nr s.roads) (hNt : NetS w An nn s.net) (hB : SlE 3 encB w Ab nb s.list) (hok : StOk s) (hw : SlE 1 encS w B n (([114, 105, 100, 101] :: ws).map bs)) (hn : n ≤ 1002) :
    Calls Tryz.prog 77 #[.agg #[.slice Ar nr cr, .slice An nn cn, .slice Ab nb cb], .slice B n c] w (Only (.string ⟨#[119, 104, 97, 116, 10]⟩) w) := by
  obtain ⟨m, hm0⟩ : ∃ m, ws.length = m := ⟨_, rfl⟩
  obtain rfl : n = m + 1 := by rw [← hw.len, ← hm0]; simp
  have HM0 := Lib.hid hm0
  obtain ⟨b, off, wx, rfl, hbl, hx, -, g0⟩ := atS hw (Below.refl _ _) (show 0 < m + 1 by omega)
  obtain rfl : wx = ⟨#[114, 105, 100, 101]⟩ := (Option.some.inj hx).symm
  have hr16 := hok.1.2.2.1
  have hn6 := hok.2.1.2.2.1
  have hb16 := hok.2.2.2.2.1
  rw [hR.len] at hr16
  rw [hNt.len] at hn6
  rw [hB.len] at hb16
  rw [Nat.add_zero] at g0
  have B1 := Lib.hid (below_alloc (Below.refl w.heap.size w) (.cells #[.slice Ar nr cr, .slice An nn cn, .slice Ab nb cb] 66))
  have HC1 := Lib.hid (show (w.alloc (.cells #[.slice Ar nr cr, .slice An nn cn, .slice Ab nb cb] 66)).cell? ⟨w.heap.size, 0, none⟩ = some (.slice Ar nr cr) ∧ (w.alloc (.cells #[.slice Ar nr cr, .slice An nn cn, .slice Ab nb cb] 66)).cell? ⟨w.heap.size, 1, none⟩ = some (.slice An nn cn) ∧ (w.alloc (.cells #[.slice Ar nr cr, .slice An nn cn, .slice Ab nb cb] 66)).cell? ⟨w.heap.size, 2, none⟩ = some (.slice Ab nb cb) ∧ (w.alloc (.cells #[.slice Ar nr cr, .slice An nn cn, .slice Ab nb cb] 66)).cell? ⟨b, off, none⟩ = some (.string ⟨#[114, 105, 100, 101]⟩) from ⟨by simp, by simp, by simp, cell_below B1.out g0⟩)
  have HNM := Lib.hid (l10Numbers_any (some ⟨b, off, none⟩) (m + 1) c [114, 105, 100, 101] ws _ (hw.below B1.out) hn)
  have HRD := Lib.hid hR
  have HNT := Lib.hid hNt
  have HBK := Lib.hid hB
  have HOK := Lib.hid hok
  clear hR hNt hB hok hw hx g0
  have hmz : ((m : Int) == 4) = false := by rw [hm0] at hm; simp; omega
  clear hm
  clear hm0
  go_enter Tryz.func77, Tryz.ntmps77
  go_wp2_with fail
  refine HNM.out.mono ?_
  rintro e w2 ⟨v, rfl, hown, hb2⟩
  obtain ⟨A2, c2, rfl, hsl2, -⟩ := hown.slc encI_len (n := m) (by rw [List.length_map]; exact HM0.out)
  have HC2 := Lib.hid (cells4_below hb2 HC1.out)
  have HB2 := Lib.hid (below_trans B1.out hb2)
  obtain ⟨k0, k1, k2, k3⟩ := HC2.out
  clear hown hb2 hsl2 HC1 HNM B1
  go_wp2_with fail
  go_ret
  exact ⟨rfl, HB2.out⟩
set_option maxRecDepth 20000 in
set_option maxHeartbeats 3200000 in
theorem l10Ask_no_seats (ws : List (List UInt8)) (hm : ws.length ≠ 0) (w : World) (hR : SlE 3 enc3 w Ar nr s.roads) (hNt : NetS w An nn s.net) (hB : SlE 3 encB w Ab nb s.list) (hok : StOk s) (hw : SlE 1 encS w B n (([115, 101, 97, 116, 115] :: ws).map bs)) (hn : n ≤ 1002) :
    Calls Tryz.prog 77 #[.agg #[.slice Ar nr cr, .slice An nn cn, .slice Ab nb cb], .slice B n c] w (Only (.string ⟨#[119, 104, 97, 116, 10]⟩) w) := by
  obtain ⟨m, hm0⟩ : ∃ m, ws.length = m := ⟨_, rfl⟩
  obtain rfl : n = m + 1 := by rw [← hw.len, ← hm0]; simp
  have HM0 := Lib.hid hm0
  obtain ⟨b, off, wx, rfl, hbl, hx, -, g0⟩ := atS hw (Below.refl _ _) (show 0 < m + 1 by omega)
  obtain rfl : wx = ⟨#[115, 101, 97, 116, 115]⟩ := (Option.some.inj hx).symm
  have hr16 := hok.1.2.2.1
  have hn6 := hok.2.1.2.2.1
  have hb16 := hok.2.2.2.2.1
  rw [hR.len] at hr16
  rw [hNt.len] at hn6
  rw [hB.len] at hb16
  rw [Nat.add_zero] at g0
  have B1 := Lib.hid (below_alloc (Below.refl w.heap.size w) (.cells #[.slice Ar nr cr, .slice An nn cn, .slice Ab nb cb] 66))
  have HC1 := Lib.hid (show (w.alloc (.cells #[.slice Ar nr cr, .slice An nn cn, .slice Ab nb cb] 66)).cell? ⟨w.heap.size, 0, none⟩ = some (.slice Ar nr cr) ∧ (w.alloc (.cells #[.slice Ar nr cr, .slice An nn cn, .slice Ab nb cb] 66)).cell? ⟨w.heap.size, 1, none⟩ = some (.slice An nn cn) ∧ (w.alloc (.cells #[.slice Ar nr cr, .slice An nn cn, .slice Ab nb cb] 66)).cell? ⟨w.heap.size, 2, none⟩ = some (.slice Ab nb cb) ∧ (w.alloc (.cells #[.slice Ar nr cr, .slice An nn cn, .slice Ab nb cb] 66)).cell? ⟨b, off, none⟩ = some (.string ⟨#[115, 101, 97, 116, 115]⟩) from ⟨by simp, by simp, by simp, cell_below B1.out g0⟩)
  have HNM := Lib.hid (l10Numbers_any (some ⟨b, off, none⟩) (m + 1) c [115, 101, 97, 116, 115] ws _ (hw.below B1.out) hn)
  have HRD := Lib.hid hR
  have HNT := Lib.hid hNt
  have HBK := Lib.hid hB
  have HOK := Lib.hid hok
  clear hR hNt hB hok hw hx g0
  have hmz : ((m : Int) == 0) = false := by rw [hm0] at hm; simp; omega
  clear hm
  clear hm0
  go_enter Tryz.func77, Tryz.ntmps77
  go_wp2_with fail
  refine HNM.out.mono ?_
  rintro e w2 ⟨v, rfl, hown, hb2⟩
  obtain ⟨A2, c2, rfl, hsl2, -⟩ := hown.slc encI_len (n := m) (by rw [List.length_map]; exact HM0.out)
  have HC2 := Lib.hid (cells4_below hb2 HC1.out)
  have HB2 := Lib.hid (below_trans B1.out hb2)
  obtain ⟨k0, k1, k2, k3⟩ := HC2.out
  clear hown hb2 hsl2 HC1 HNM B1
  go_wp2_with fail
  go_ret
  exact ⟨rfl, HB2.out⟩
set_option maxRecDepth 20000 in
set_option maxHeartbeats 3200000 in
theorem l10Ask_no_other (wd : List UInt8) (ws : List (List UInt8)) (h0 : wd ≠ [102, 97, 114]) (h1 : wd ≠ [119, 97, 121]) (h2 : wd ≠ [99, 111, 97, 99, 104, 101, 115]) (h3 : wd ≠ [112, 111, 115, 116]) (h4 : wd ≠ [114, 105, 100, 101]) (h5 : wd ≠ [115, 101, 97, 116, 115]) (w : World) (hR : SlE 3 enc3 w Ar nr s.roads) (hNt : NetS w An nn s.net) (hB : SlE 3 encB w Ab nb s.list) (hok : StOk s) (hw : SlE 1 encS w B n ((wd :: ws).map bs)) (hn : n ≤ 1002) :
    Calls Tryz.prog 77 #[.agg #[.slice Ar nr cr, .slice An nn cn, .slice Ab nb cb], .slice B n c] w (Only (.string ⟨#[119, 104, 97, 116, 10]⟩) w) := by
  obtain ⟨m, hm0⟩ : ∃ m, ws.length = m := ⟨_, rfl⟩
  obtain rfl : n = m + 1 := by rw [← hw.len, ← hm0]; simp
  have HM0 := Lib.hid hm0
  obtain ⟨b, off, wx, rfl, hbl, hx, -, g0⟩ := atS hw (Below.refl _ _) (show 0 < m + 1 by omega)
  obtain rfl : wx = (bs wd) := (Option.some.inj hx).symm
  have hr16 := hok.1.2.2.1
  have hn6 := hok.2.1.2.2.1
  have hb16 := hok.2.2.2.2.1
  rw [hR.len] at hr16
  rw [hNt.len] at hn6
  rw [hB.len] at hb16
  rw [Nat.add_zero] at g0
  have B1 := Lib.hid (below_alloc (Below.refl w.heap.size w) (.cells #[.slice Ar nr cr, .slice An nn cn, .slice Ab nb cb] 66))
  have HC1 := Lib.hid (show (w.alloc (.cells #[.slice Ar nr cr, .slice An nn cn, .slice Ab nb cb] 66)).cell? ⟨w.heap.size, 0, none⟩ = some (.slice Ar nr cr) ∧ (w.alloc (.cells #[.slice Ar nr cr, .slice An nn cn, .slice Ab nb cb] 66)).cell? ⟨w.heap.size, 1, none⟩ = some (.slice An nn cn) ∧ (w.alloc (.cells #[.slice Ar nr cr, .slice An nn cn, .slice Ab nb cb] 66)).cell? ⟨w.heap.size, 2, none⟩ = some (.slice Ab nb cb) ∧ (w.alloc (.cells #[.slice Ar nr cr, .slice An nn cn, .slice Ab nb cb] 66)).cell? ⟨b, off, none⟩ = some (.string (bs wd)) from ⟨by simp, by simp, by simp, cell_below B1.out g0⟩)
  have HNM := Lib.hid (l10Numbers_any (some ⟨b, off, none⟩) (m + 1) c wd ws _ (hw.below B1.out) hn)
  have HRD := Lib.hid hR
  have HNT := Lib.hid hNt
  have HBK := Lib.hid hB
  have HOK := Lib.hid hok
  clear hR hNt hB hok hw hx g0
  have d0 : ((bs wd).toList == [102, 97, 114]) = false := by rw [ByteArray.toList_eq, bs_data]; simpa using h0
  have d1 : ((bs wd).toList == [119, 97, 121]) = false := by rw [ByteArray.toList_eq, bs_data]; simpa using h1
  have d2 : ((bs wd).toList == [99, 111, 97, 99, 104, 101, 115]) = false := by rw [ByteArray.toList_eq, bs_data]; simpa using h2
  have d3 : ((bs wd).toList == [112, 111, 115, 116]) = false := by rw [ByteArray.toList_eq, bs_data]; simpa using h3
  have d4 : ((bs wd).toList == [114, 105, 100, 101]) = false := by rw [ByteArray.toList_eq, bs_data]; simpa using h4
  have d5 : ((bs wd).toList == [115, 101, 97, 116, 115]) = false := by rw [ByteArray.toList_eq, bs_data]; simpa using h5
  clear hm0
  go_enter Tryz.func77, Tryz.ntmps77
  go_wp2_with fail
  refine HNM.out.mono ?_
  rintro e w2 ⟨v, rfl, hown, hb2⟩
  obtain ⟨A2, c2, rfl, hsl2, -⟩ := hown.slc encI_len (n := m) (by rw [List.length_map]; exact HM0.out)
  have HC2 := Lib.hid (cells4_below hb2 HC1.out)
  have HB2 := Lib.hid (below_trans B1.out hb2)
  obtain ⟨k0, k1, k2, k3⟩ := HC2.out
  clear hown hb2 hsl2 HC1 HNM B1
  go_wp2_with fail
  go_ret
  exact ⟨rfl, HB2.out⟩
end
end Go.Proofs.YtgjllminidlolaaGreatDoor
/- Contracts: a line of the reference that changes the state. -/
set_option linter.unusedVariables false
namespace Go.Proofs.YtgjllminidlolaaGreatDoor
open Go.RowKit

/-- Three cells of a block that may be written. -/
structure BoxAt (W : World) (R : Nat) (v0 v1 v2 : Value) : Prop where
  c0 : W.cell? ⟨R, 0, none⟩ = some v0
  c1 : W.cell? ⟨R, 1, none⟩ = some v1
  c2 : W.cell? ⟨R, 2, none⟩ = some v2
  fz : ∀ i, W.frozen? ⟨R, i, none⟩ = false
  lt : R < W.heap.size
theorem box_new (W : World) (v0 v1 v2 : Value) (T : TypeId) : BoxAt (W.alloc (.cells #[v0, v1, v2] T)) W.heap.size v0 v1 v2 :=
  ⟨by simp, by simp, by simp, fun i => frozen_of_row _ _ i _ T (heap_alloc_new W _), by simp⟩
theorem box_at (W : World) (v0 v1 v2 : Value) (T : TypeId) {R : Nat} (h : R = W.heap.size) : BoxAt (W.alloc (.cells #[v0, v1, v2] T)) R v0 v1 v2 := by
  subst h
  exact box_new W v0 v1 v2 T
theorem BoxAt.below {W W' : World} {R : Nat} {v0 v1 v2 : Value} (h : BoxAt W R v0 v1 v2) (hb : Below W.heap.size W W') : BoxAt W' R v0 v1 v2 :=
  ⟨cell_below hb h.c0, cell_below hb h.c1, cell_below hb h.c2, fun i => by rw [hb.frozen h.lt]; exact h.fz i, Nat.lt_of_lt_of_le h.lt hb.size⟩
theorem BoxAt.put {W : World} {R Q i : Nat} {v0 v1 v2 u : Value} (h : BoxAt W R v0 v1 v2) (hne : Q ≠ R) : BoxAt (W.setCell ⟨Q, i, none⟩ u) R v0 v1 v2 := by
  have key : ∀ j, (W.setCell ⟨Q, i, none⟩ u).cell? ⟨R, j, none⟩ = W.cell? ⟨R, j, none⟩ := fun j => World.cell?_setCell_other _ _ _ _ (fun e => hne (by injection e))
  exact ⟨by rw [key]; exact h.c0, by rw [key]; exact h.c1, by rw [key]; exact h.c2, fun j => by rw [World.frozen?_setCell]; exact h.fz j, by rw [show (W.setCell ⟨Q, i, none⟩ u).heap.size = W.heap.size by simp [World.setCell]]; exact h.lt⟩
theorem BoxAt.put0 {W : World} {R : Nat} {v0 v1 v2 : Value} (h : BoxAt W R v0 v1 v2) (u : Value) : BoxAt (W.setCell ⟨R, 0, none⟩ u) R u v1 v2 :=
  ⟨World.cell?_setCell_same _ _ _ h.c0, by rw [World.cell?_setCell_other _ _ _ _ (by simp)]; exact h.c1, by rw [World.cell?_setCell_other _ _ _ _ (by simp)]; exact h.c2, fun j => by rw [World.frozen?_setCell]; exact h.fz j, by rw [show (W.setCell ⟨R, 0, none⟩ u).heap.size = W.heap.size by simp [World.setCell]]; exact h.lt⟩
theorem BoxAt.put1 {W : World} {R : Nat} {v0 v1 v2 : Value} (h : BoxAt W R v0 v1 v2) (u : Value) : BoxAt (W.setCell ⟨R, 1, none⟩ u) R v0 u v2 :=
  ⟨by rw [World.cell?_setCell_other _ _ _ _ (by simp)]; exact h.c0, World.cell?_setCell_same _ _ _ h.c1, by rw [World.cell?_setCell_other _ _ _ _ (by simp)]; exact h.c2, fun j => by rw [World.frozen?_setCell]; exact h.fz j, by rw [show (W.setCell ⟨R, 1, none⟩ u).heap.size = W.heap.size by simp [World.setCell]]; exact h.lt⟩
theorem BoxAt.put2 {W : World} {R : Nat} {v0 v1 v2 : Value} (h : BoxAt W R v0 v1 v2) (u : Value) : BoxAt (W.setCell ⟨R, 2, none⟩ u) R v0 v1 u :=
  ⟨by rw [World.cell?_setCell_other _ _ _ _ (by simp)]; exact h.c0, by rw [World.cell?_setCell_other _ _ _ _ (by simp)]; exact h.c1, World.cell?_setCell_same _ _ _ h.c2, fun j => by rw [World.frozen?_setCell]; exact h.fz j, by rw [show (W.setCell ⟨R, 2, none⟩ u).heap.size = W.heap.size by simp [World.setCell]]; exact h.lt⟩
theorem put_other {W : World} {Q R i j : Nat} {u v : Value} (hne : Q ≠ R) (h : W.cell? ⟨R, j, none⟩ = some v) : (W.setCell ⟨Q, i, none⟩ u).cell? ⟨R, j, none⟩ = some v := by
  rw [World.cell?_setCell_other _ _ _ _ (fun e => hne (by injection e))]
  exact h
/-- A slice does not lie in a block. -/
def NoB (R : Nat) (A : Option Addr) (n : Nat) : Prop := 0 < n → ∀ b off, A = some ⟨b, off, none⟩ → b ≠ R
/-- Timetables in memory, none of them in a block. -/
def NetA (R : Nat) (W : World) (A : Option Addr) (net : List (List T3)) : Prop :=
  NoB R A net.length ∧ ∃ vs : List Value, SlE 1 encV W A net.length vs ∧ vs.length = net.length ∧ ∀ (j : Nat) u xs, vs[j]? = some u → net[j]? = some xs → ∃ A' n' c', u = .slice A' n' c' ∧ SlE 3 enc3 W A' n' xs ∧ n' ≤ c' ∧ NoB R A' n'
theorem NetA.below {R : Nat} {W W' : World} {A : Option Addr} {net : List (List T3)} (h : NetA R W A net) (hb : Below W.heap.size W W') : NetA R W' A net := by
  obtain ⟨h0, vs, h1, h2, h3⟩ := h
  refine ⟨h0, vs, h1.below hb, h2, fun j u xs hu hx => ?_⟩
  obtain ⟨A', n', c', rfl, h4, h5, h6⟩ := h3 j u xs hu hx
  exact ⟨A', n', c', rfl, h4.below hb, h5, h6⟩
theorem NetA.netS {R : Nat} {W : World} {A : Option Addr} {net : List (List T3)} (h : NetA R W A net) : NetS W A net.length net := by
  obtain ⟨h0, vs, h1, h2, h3⟩ := h
  refine ⟨vs, h1, h2, fun j u xs hu hx => ?_⟩
  obtain ⟨A', n', c', rfl, h4, h5, h6⟩ := h3 j u xs hu hx
  exact ⟨A', n', c', rfl, h4, h5⟩
/-- No slice of a state lies in a block. -/
structure AvR (R : Nat) (W : World) (Ar An Ab : Option Addr) (s : LSt) : Prop where
  r : NoB R Ar s.roads.length
  b : NoB R Ab s.list.length
  n : NetA R W An s.net
theorem AvR.below {R : Nat} {W W' : World} {Ar An Ab : Option Addr} {s : LSt} (h : AvR R W Ar An Ab s) (hb : Below W.heap.size W W') : AvR R W' Ar An Ab s := ⟨h.r, h.b, h.n.below hb⟩
theorem own_avoid {α : Type} {k ty base : Nat} {enc : α → List Value} {W : World} {A : Option Addr} {n c : Nat} {xs : List α} (h : OwnE k enc ty base W (.slice A n c) xs) {R : Nat} (hR : R < base) {m : Nat} : NoB R A m := fun _ b off hA e => by
  subst hA
  have := (h.lt b rfl).1
  omega
theorem netA_own {base : Nat} {W : World} {A : Option Addr} {n c : Nat} {net : List (List T3)} (h : NetB base W (.slice A n c) net) {R : Nat} (hR : R < base) : NetA R W A net := by
  obtain ⟨ss, h1, h2, h3⟩ := h
  obtain ⟨A0, c0, he, hs, hc⟩ := (own_WV h1).slc encV_len (n := net.length) (by rw [List.length_map, h2])
  injection he with e1 e2 e3
  subst e1
  refine ⟨own_avoid h1 hR, _, hs, by rw [List.length_map, h2], fun j u xs hu hx => ?_⟩
  rw [List.getElem?_map] at hu
  obtain ⟨s, hs', rfl⟩ := Option.map_eq_some_iff.1 hu
  obtain ⟨A', c', hv, hsl, hc'⟩ := (h3 j s xs hs' hx).1.slc enc3_len rfl
  have ho := (h3 j s xs hs' hx).1
  rw [hv] at ho
  exact ⟨A', _, c', hv, hsl, hc', own_avoid ho hR⟩
/-- A line has been run: the state behind it, and what is written. -/
def LineRet (Ar0 An0 Ab0 : Option Addr) (s s' : LSt) (t : List UInt8) (w : World) (e : Ending) (w' : World) : Prop :=
  Below w.heap.size w w' ∧ ∃ Ar cr An cn Ab cb, e = .returned (.tuple #[.agg #[.slice Ar s'.roads.length cr, .slice An s'.net.length cn, .slice Ab s'.list.length cb], .string (bs t)]) ∧ SpS w' Ar cr An cn Ab cb s' ∧
    ∀ R, R < w.heap.size → AvR R w Ar0 An0 Ab0 s → AvR R w' Ar An Ab s'
theorem box_sets {w W : World} {R : Nat} (h : Below w.heap.size w W) (hR : w.heap.size ≤ R) (a b c : Value) : Below w.heap.size w (((W.setCell ⟨R, 0, none⟩ a).setCell ⟨R, 1, none⟩ b).setCell ⟨R, 2, none⟩ c) :=
  ((h.setCell (p := ⟨R, 0, none⟩) hR a).setCell (p := ⟨R, 1, none⟩) hR b).setCell (p := ⟨R, 2, none⟩) hR c
theorem own_put {α : Type} {k ty base : Nat} {enc : α → List Value} {W : World} {v : Value} {xs : List α} (h : OwnE k enc ty base W v xs) {R i : Nat} (hR : R < base) (u : Value) : OwnE k enc ty base (W.setCell ⟨R, i, none⟩ u) v xs :=
  h.apart (grown_setCell W ⟨R, i, none⟩ u) (.inr fun e => by have := (h.lt R e).1; omega)
theorem netB_put {base : Nat} {W : World} {v : Value} {net : List (List T3)} (h : NetB base W v net) {R i : Nat} (hR : R < base) (u : Value) : NetB base (W.setCell ⟨R, i, none⟩ u) v net := by
  obtain ⟨ss, h1, h2, h3⟩ := h
  exact ⟨ss, own_put h1 hR u, h2, fun j s xs hs hx => ⟨own_put (h3 j s xs hs hx).1 hR u, (h3 j s xs hs hx).2⟩⟩
section
variable (Ar : Option Addr) (nr cr : Nat) (An : Option Addr) (nn cn : Nat) (Ab : Option Addr) (nb cb : Nat) (s : LSt) (B : Option Addr) (n c : Nat)
set_option maxRecDepth 20000 in
set_option maxHeartbeats 6400000 in
theorem l10Line_road (x y z : List UInt8) (ys : List T3) (ok : Bool) (s' : LSt) (t : List UInt8) (w : World) (hR : SlE 3 enc3 w Ar nr s.roads) (hNt : NetS w An nn s.net) (hB : SlE 3 encB w Ab nb s.list) (hok : StOk s) (hrc : nr ≤ cr) (hw : SlE 1 encS w B n (([114, 111, 97, 100] :: [x, y, z]).map bs))
    (hb : (ok = true ∧ RoadOk 6 (s.roads ++ [⟨numL x, numL y, numL z⟩]) ∧ ys = s.roads ++ [⟨numL x, numL y, numL z⟩]) ∨ (ok = false ∧ ¬ RoadOk 6 (s.roads ++ [⟨numL x, numL y, numL z⟩]) ∧ ys = []))
    (ht : (ok = true ∧ s' = { s with roads := ys } ∧ t = [111, 107, 10]) ∨ (ok = false ∧ s' = s ∧ t = [110, 111, 10])) :
    Calls Tryz.prog 40 #[.agg #[.slice Ar nr cr, .slice An nn cn, .slice Ab nb cb], .slice B n c] w (LineRet Ar An Ab s s' t w) := by
  obtain rfl : n = 4 := by rw [← hw.len]; simp
  obtain ⟨b, off, wx, rfl, hbl, hx, -, g0⟩ := atS hw (Below.refl _ _) (show 0 < 4 by omega)
  obtain rfl : wx = ⟨#[114, 111, 97, 100]⟩ := (Option.some.inj hx).symm
  have hr16 := hok.1.2.2.1
  rw [hR.len] at hr16
  rw [Nat.add_zero] at g0
  obtain ⟨W1, hW1⟩ : ∃ W1, (w.alloc (.cells #[.slice Ar nr cr, .slice An nn cn, .slice Ab nb cb] 66)).alloc (.cells #[.slice none 0 0, .slice none 0 0, .slice none 0 0] 66) = W1 := ⟨_, rfl⟩
  have hs0 : (w.alloc (.cells #[.slice Ar nr cr, .slice An nn cn, .slice Ab nb cb] 66)).heap.size = w.heap.size + 1 := by simp
  have B1 := Lib.hid (show Below w.heap.size w W1 by rw [← hW1]; exact below_alloc (below_alloc (Below.refl w.heap.size w) _) _)
  have X0 := Lib.hid (show BoxAt W1 w.heap.size (.slice Ar nr cr) (.slice An nn cn) (.slice Ab nb cb) by rw [← hW1]; exact (box_new w _ _ _ _).below (below_alloc (Below.refl _ _) _))
  have X4 := Lib.hid (show BoxAt W1 (w.heap.size + 1) (.slice none 0 0) (.slice none 0 0) (.slice none 0 0) by rw [← hW1]; exact box_at _ _ _ _ _ hs0.symm)
  have G1 := Lib.hid (cell_below B1.out g0)
  have HNM := Lib.hid (l10Numbers_any (some ⟨b, off, none⟩) 4 c [114, 111, 97, 100] [x, y, z] W1 (hw.below B1.out) (by omega))
  have HRD := Lib.hid hR
  have HNT := Lib.hid hNt
  have HBK := Lib.hid hB
  have HBB := Lib.hid hb
  have HRC := Lib.hid hrc
  have HTT := Lib.hid ht
  have HLR := Lib.hid (And.intro hR.len (And.intro hNt.len hB.len))
  clear hR hNt hB hw hx g0 hs0 hb hrc ht
  go_enter Tryz.func40, Tryz.ntmps40
  go_wp2_with fail
  clear hW1
  refine HNM.out.mono ?_
  rintro e w2 ⟨v, rfl, hown, hb2⟩
  obtain ⟨A2, c2, rfl, hsl2, -⟩ := hown.slc encI_len (n := 3) (by simp)
  have Y0 := Lib.hid (X0.out.below hb2)
  have Y4 := Lib.hid (X4.out.below hb2)
  have B2 := Lib.hid (below_trans B1.out hb2)
  have G2 := Lib.hid (cell_below hb2 G1.out)
  obtain ⟨bb, of2, rfl, hbl2, n0, n1, n2⟩ := num3 hsl2
  clear hown hb2 hsl2 X0 X4 B1 G1 HNM
  obtain ⟨W3, hW3⟩ : ∃ W3, w2.alloc (.cells #[.slice Ar nr cr, .slice An nn cn, .slice Ab nb cb] 66) = W3 := ⟨_, rfl⟩
  have bw3 : Below w2.heap.size w2 W3 := by rw [← hW3]; exact below_alloc (Below.refl w2.heap.size w2) _
  have Z0 := Lib.hid (Y0.out.below bw3)
  have Z4 := Lib.hid (Y4.out.below bw3)
  have Z7 := Lib.hid (show BoxAt W3 w2.heap.size (.slice Ar nr cr) (.slice An nn cn) (.slice Ab nb cb) by rw [← hW3]; exact box_new w2 _ _ _ _)
  have B3 := Lib.hid (below_trans B2.out bw3)
  have G3 := Lib.hid (cell_below bw3 G2.out)
  have N3 := Lib.hid (cells3_below bw3 ⟨n0, n1, n2⟩)
  have HSZ := Lib.hid (show w.heap.size + 1 < w2.heap.size ∧ w2.heap.size < W3.heap.size from ⟨Y4.out.lt, Z7.out.lt⟩)
  obtain ⟨k0, k1, k2, kf, -⟩ := Y0.out
  have g2 := G2.out
  have g3 := G3.out
  have HBB2 := Lib.hid hbl2
  clear n0 n1 n2 bw3 hbl hbl2
  have HCALL := Lib.hid (fun W (hW : Below w.heap.size w W) => specRoadsAdd_any Ar 6 nr cr s.roads (numL x) (numL y) (numL z) ys ok W (HRD.out.below hW) (by omega) (by omega) (by omega) HBB.out)
  generalize numL x = nx at *
  generalize numL y = ny at *
  generalize numL z = nz at *
  go_upto_region 6 with (fail)
  clear hW3 g2 g3 k0 k1 k2 kf
  have HS0 := Lib.hid (show W3.drew.cell? ⟨w.heap.size, 0, none⟩ = some (.slice Ar nr cr) ∧ W3.drew.cell? ⟨bb, of2, none⟩ = some (.int .i64 nx) ∧ W3.drew.cell? ⟨bb, of2 + 1, none⟩ = some (.int .i64 ny) ∧ W3.drew.cell? ⟨bb, of2 + 2, none⟩ = some (.int .i64 nz) from ⟨Z0.out.c0, N3.out⟩)
  have HNE := Lib.hid (show w2.heap.size ≠ w.heap.size ∧ w2.heap.size ≠ bb ∧ w2.heap.size ≠ w.heap.size + 1 from ⟨by have := HSZ.out; omega, by have := HBB2.out; omega, by have := HSZ.out; omega⟩)
  go_region_held3 (fun w' => w'.cell? ⟨w.heap.size, 0, none⟩ = some (.slice Ar nr cr) ∧ w'.cell? ⟨bb, of2, none⟩ = some (.int .i64 nx) ∧ w'.cell? ⟨bb, of2 + 1, none⟩ = some (.int .i64 ny) ∧ w'.cell? ⟨bb, of2 + 2, none⟩ = some (.int .i64 nz))
    (first | exact HS0.out | exact CZ4.out | exact CZ5.out | fail)
    (first
      | (go_at_call 73; (with_reducible_and_instances refine (HCALL.out _ (below_drew B3.out)).mono ?_); rintro e w4 ⟨v, rfl, hown, hb4⟩; obtain ⟨m4, hm4⟩ : ∃ m4, ys.length = m4 := ⟨_, rfl⟩; obtain ⟨A4, c4, rfl, -, hcap4⟩ := hown.slc enc3_len hm4; have HO4 := Lib.hid hown; have HM4 := Lib.hid hm4; have HCAP4 := Lib.hid hcap4; have U0 := Lib.hid (Z0.out.below (Below.trans (below_drew (Below.refl _ W3)) hb4)); have U4 := Lib.hid (Z4.out.below (Below.trans (below_drew (Below.refl _ W3)) hb4)); have U7 := Lib.hid (Z7.out.below (Below.trans (below_drew (Below.refl _ W3)) hb4)); have B4 := Lib.hid (below_trans (below_drew B3.out) hb4); have CZ4 := Lib.hid (cells4_below hb4 HS0.out); have CZ5 := Lib.hid (show (w4.setCell ⟨w2.heap.size, 0, none⟩ (.slice A4 m4 c4)).cell? ⟨w.heap.size, 0, none⟩ = some (.slice Ar nr cr) ∧ (w4.setCell ⟨w2.heap.size, 0, none⟩ (.slice A4 m4 c4)).cell? ⟨bb, of2, none⟩ = some (.int .i64 nx) ∧ (w4.setCell ⟨w2.heap.size, 0, none⟩ (.slice A4 m4 c4)).cell? ⟨bb, of2 + 1, none⟩ = some (.int .i64 ny) ∧ (w4.setCell ⟨w2.heap.size, 0, none⟩ (.slice A4 m4 c4)).cell? ⟨bb, of2 + 2, none⟩ = some (.int .i64 nz) from ⟨put_other HNE.out.1 CZ4.out.1, put_other HNE.out.2.1 CZ4.out.2.1, put_other HNE.out.2.1 CZ4.out.2.2.1, put_other HNE.out.2.1 CZ4.out.2.2.2⟩); obtain ⟨q0, q1, q2, qf, -⟩ := U7.out; clear hown hb4 hm4 hcap4)
      | fail)
  have V0 := Lib.hid (U0.out.put (i := 0) (u := .slice A4 m4 c4) HNE.out.1)
  have V4 := Lib.hid (U4.out.put (i := 0) (u := .slice A4 m4 c4) HNE.out.2.2)
  have V7 := Lib.hid (U7.out.put0 (.slice A4 m4 c4))
  have B5 := Lib.hid (B4.out.setCell (p := ⟨w2.heap.size, 0, none⟩) (show w.heap.size ≤ w2.heap.size by have := HSZ.out; omega) (.slice A4 m4 c4))
  have O5 := Lib.hid (own_put HO4.out (R := w2.heap.size) (i := 0) (show w2.heap.size < W3.drew.heap.size from HSZ.out.2) (.slice A4 m4 c4))
  clear q0 q1 q2 qf CZ4 CZ5 HS0 U0 U4 U7 HO4 B4
  generalize w4.setCell ⟨w2.heap.size, 0, none⟩ (.slice A4 m4 c4) = w5 at *
  obtain ⟨k0, k1, k2, -, -⟩ := V0.out
  obtain ⟨r0, r1, r2, rf, -⟩ := V4.out
  obtain ⟨q0, q1, q2, -, -⟩ := V7.out
  have HR4 := Lib.hid (show w.heap.size + 1 < W3.drew.heap.size by have := HSZ.out; exact Nat.lt_trans this.1 this.2)
  rcases HTT.out with ⟨rfl, rfl, rfl⟩ | ⟨rfl, rfl, rfl⟩
  · have BF := Lib.hid (box_sets B5.out (R := w.heap.size + 1) (Nat.le_succ _) (.slice A4 m4 c4) (.slice An nn cn) (.slice Ab nb cb))
    have OF := Lib.hid (own_put (own_put (own_put O5.out HR4.out (i := 0) (.slice A4 m4 c4)) HR4.out (i := 1) (.slice An nn cn)) HR4.out (i := 2) (.slice Ab nb cb))
    go_wp2_with fail
    refine bodyPost_ret (v := .tuple #[.agg #[.slice A4 m4 c4, .slice An nn cn, .slice Ab nb cb], .string ⟨#[111, 107, 10]⟩]) (by rw [results_cell_tmp rfl]; go_simp) rfl ?_
    have hl := HLR.out
    refine ⟨BF.out, A4, c4, An, cn, Ab, cb, ?_, ⟨?_, ?_, ?_, ?_⟩, ?_⟩
    · dsimp only
      rw [HM4.out, hl.2.1, hl.2.2]
      rfl
    · dsimp only
      rw [HM4.out]
      exact sl_of_own_at enc3_len OF.out HM4.out
    · dsimp only
      rw [hl.2.1]
      exact HNT.out.below BF.out
    · dsimp only
      rw [hl.2.2]
      exact HBK.out.below BF.out
    · dsimp only
      rw [HM4.out]
      exact HCAP4.out
    · exact fun R hR h => ⟨own_avoid OF.out (Nat.lt_trans hR (Nat.lt_trans (Nat.lt_succ_self _) HR4.out)), h.b, h.n.below BF.out⟩
  · have BF := Lib.hid (box_sets B5.out (R := w.heap.size + 1) (Nat.le_succ _) (.slice Ar nr cr) (.slice An nn cn) (.slice Ab nb cb))
    go_wp2_with fail
    refine bodyPost_ret (v := .tuple #[.agg #[.slice Ar nr cr, .slice An nn cn, .slice Ab nb cb], .string ⟨#[110, 111, 10]⟩]) (by rw [results_cell_tmp rfl]; go_simp) rfl ?_
    have hl := HLR.out
    refine ⟨BF.out, Ar, cr, An, cn, Ab, cb, ?_, ⟨?_, ?_, ?_, ?_⟩, ?_⟩
    · rw [hl.1, hl.2.1, hl.2.2]
      rfl
    · rw [hl.1]
      exact HRD.out.below BF.out
    · rw [hl.2.1]
      exact HNT.out.below BF.out
    · rw [hl.2.2]
      exact HBK.out.below BF.out
    · rw [hl.1]
      exact HRC.out
    · exact fun R hR h => h.below BF.out
end
end Go.Proofs.YtgjllminidlolaaGreatDoor
