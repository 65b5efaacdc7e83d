/- Texts of mine in one: RWalkP RWalkD CatAt RWalkF RWalkG RWalkH. -/
import Derived.Test.YtgjllminidlolaaGreatDoorVAG
import Derived.Deep.RegionHeld3
import Derived.StillTailTactics
import Derived.Test.YtgjllminidlolaaGreatDoorVAB
import Derived.Test.YtgjllminidlolaaGreatDoorVAA
import Derived.Deep.QuietTactic
import Derived.BigQuiet
import Derived.Handy
import Derived.Test.YtgjllminidlolaaGreatDoorVAC
import Derived.Maps.AppendAt
import Derived.Deep.RegionLaw
import Derived.Deep.Light
/- Contracts: RoadsAdd. -/
set_option linter.unusedVariables false
namespace Go.Proofs.YtgjllminidlolaaGreatDoor
open Go.RowKit

theorem road_pre {n : Int} {xs ys : List T3} (h : RoadOk n (xs ++ ys)) : RoadOk n xs := by
  have := road_take h xs.length
  rwa [List.take_left'  rfl] at this
set_option maxRecDepth 20000 in
set_option maxHeartbeats 1600000 in
theorem implRoadsAdd_no1 (A : Option Addr) (n : Int) (len cap : Nat) (xs : List T3) (x y : Int) (z : Int) (w : World) (h : SlE 3 enc3 w A len xs) (hn : len ≤ 1048577) (hB : ¬ RoadOk n xs) :
    Calls Tryz.prog 176 #[.int .i64 n, .slice A len cap, .agg #[.int .i64 x, .int .i64 y, .int .i64 z]] w (RetOwnB 3 enc3 43 ([] : List T3) false w) := by
  have H := Lib.hid h
  have HN := Lib.hid hB
  have HB0 := Lib.hid (below_alloc (Below.refl w.heap.size w) (.cells #[.int .i64 x, .int .i64 y, .int .i64 z] 43))
  clear h hB
  go_enter Tryz.func176, Tryz.ntmps176
  go_wp2_with fail
  refine (implRoadsValid_any A n len cap xs _ (H.out.below HB0.out) (by omega)).mono ?_
  intro e w2 hp
  obtain ⟨rfl, hb2⟩ := hp.no HN.out
  have HB2 := Lib.hid (below_trans HB0.out hb2)
  clear hb2 hp
  go_wp2_with fail
  go_ret2
  exact ⟨_, rfl, own_new w2 _ _ HB2.out.size enc3_len [] #[] rfl (by simp) rfl, below_alloc HB2.out _⟩
set_option maxRecDepth 20000 in
set_option maxHeartbeats 1600000 in
/-- RoadsAdd of the program. -/
theorem implRoadsAdd_any (A : Option Addr) (n : Int) (len cap : Nat) (xs : List T3) (x y : Int) (z : Int) (ys : List T3) (b : Bool) (w : World) (h : SlE 3 enc3 w A len xs) (hn : len ≤ 1048577)
    (hb : (b = true ∧ RoadOk n (xs ++ [⟨x, y, z⟩]) ∧ ys = xs ++ [⟨x, y, z⟩]) ∨ (b = false ∧ ¬ RoadOk n (xs ++ [⟨x, y, z⟩]) ∧ ys = [])) :
    Calls Tryz.prog 176 #[.int .i64 n, .slice A len cap, .agg #[.int .i64 x, .int .i64 y, .int .i64 z]] w (RetOwnB 3 enc3 43 ys b w) := by
  by_cases hx : RoadOk n xs
  rotate_left
  · obtain ⟨rfl, rfl⟩ : b = false ∧ ys = [] := by
      rcases hb with ⟨_, hJ, _⟩ | ⟨rfl, _, rfl⟩
      · exact absurd (road_pre hJ) hx
      · exact ⟨rfl, rfl⟩
    exact implRoadsAdd_no1 A n len cap xs x y z w h hn hx
  have H := Lib.hid h
  have HX := Lib.hid hx
  have HBB := Lib.hid hb
  have HB0 := Lib.hid (below_alloc (Below.refl w.heap.size w) (.cells #[.int .i64 x, .int .i64 y, .int .i64 z] 43))
  have HCL := Lib.hid (fun (W : World) (hW : Below (w.alloc (.cells #[.int .i64 x, .int .i64 y, .int .i64 z] 43)).heap.size (w.alloc (.cells #[.int .i64 x, .int .i64 y, .int .i64 z] 43)) W) => (show W.cell? ⟨w.heap.size, 0, none⟩ = some (.int .i64 x) ∧ W.cell? ⟨w.heap.size, 1, none⟩ = some (.int .i64 y) ∧ W.cell? ⟨w.heap.size, 2, none⟩ = some (.int .i64 z) from by
    have hr : ∀ j, W.cell? ⟨w.heap.size, j, none⟩ = (#[.int .i64 x, .int .i64 y, .int .i64 z] : Array Value)[j]? := fun j => by
      rw [hW.cell (p := ⟨w.heap.size, j, none⟩) (by simp)]
      exact cell_of_row _ _ j _ 43 (0, 0) (heap_alloc_new w _)
    exact ⟨hr 0, hr 1, hr 2⟩))
  have HLX := Lib.hid h.len
  clear h hx hb
  go_enter Tryz.func176, Tryz.ntmps176
  go_wp2_with fail
  refine (implRoadsValid_any A n len cap xs _ (H.out.below HB0.out) (by omega)).mono ?_
  intro e w2 hp
  obtain ⟨rfl, hb2⟩ := hp.yes HX.out
  obtain ⟨c0, c1, c2⟩ := HCL.out _ hb2
  have HB2 := Lib.hid (below_trans HB0.out hb2)
  have S2 := Lib.hid (slE_new (k := 3) (enc := enc3) w2 43 enc3_len [⟨x, y, z⟩] #[.int .i64 x, .int .i64 y, .int .i64 z] rfl (by simp [maxLen]) (n := 1) rfl (g := w2.heap.size) rfl)
  have hs := slS_new (k := 3) (enc := enc3) (w := w2.alloc (.cells #[.int .i64 x, .int .i64 y, .int .i64 z] 43)) [⟨A, len, cap, xs⟩, ⟨some ⟨w2.heap.size, 0, none⟩, 1, 1, [⟨x, y, z⟩]⟩] #[.slice A len cap, .slice (some ⟨w2.heap.size, 0, none⟩) 1 1] 38 rfl (m := 2) rfl (by
    intro s hs
    simp only [List.mem_cons, List.not_mem_nil, or_false] at hs
    rcases hs with rfl | rfl
    · exact (H.out.below HB2.out).alloc _
    · exact S2.out)
  rw [show (w2.alloc (.cells #[.int .i64 x, .int .i64 y, .int .i64 z] 43)).heap.size = w2.heap.size + 1 by simp] at hs
  have HS := Lib.hid hs
  clear hb2 hp hs HCL
  go_wp2_with fail
  refine (concatR_any HS.out (by omega) (by simp [snLen]; omega)).mono ?_
  rintro e w3 ⟨v, rfl, hown, hb3⟩
  have HB3 := Lib.hid (below_trans (below_alloc (below_alloc HB2.out _) _) hb3)
  have ea : snAll [(⟨A, len, cap, xs⟩ : Sn T3), ⟨some ⟨w2.heap.size, 0, none⟩, 1, 1, [⟨x, y, z⟩]⟩] = xs ++ [⟨x, y, z⟩] := by simp [snAll]
  rw [ea] at hown
  have hown0 := hown.base_le (base' := w.heap.size) (by have := HB2.out.size; simp; omega)
  obtain ⟨A1, c1', rfl, hs1⟩ := hown0.sl enc3_len
  have HS1 := Lib.hid hs1
  have HO1 := Lib.hid hown0
  have hl3 : (xs ++ [(⟨x, y, z⟩ : T3)]).length ≤ 1048578 := by rw [List.length_append, HLX.out]; simp; omega
  clear hown hb3 ea hown0 hs1 c0 c1 c2
  generalize (xs ++ [(⟨x, y, z⟩ : T3)]).length = len3 at *
  go_wp2_with fail
  refine (implRoadsValid_any A1 n len3 c1' (xs ++ [⟨x, y, z⟩]) w3 HS1.out (by omega)).mono ?_
  intro e w4 hp
  by_cases hj : RoadOk n (xs ++ [⟨x, y, z⟩])
  · obtain ⟨rfl, hb4⟩ := hp.yes hj
    obtain ⟨rfl, rfl⟩ : b = true ∧ ys = xs ++ [⟨x, y, z⟩] := by
      rcases HBB.out with ⟨rfl, _, rfl⟩ | ⟨_, hJ, _⟩
      · exact ⟨rfl, rfl⟩
      · exact absurd hj hJ
    have HB4 := Lib.hid (below_trans HB3.out hb4)
    have HO4 := Lib.hid (HO1.out.below hb4 (Nat.le_refl _))
    clear hb4 hp hj HBB
    go_wp2_with fail
    go_ret2
    exact ⟨_, rfl, HO4.out, HB4.out⟩
  · obtain ⟨rfl, hb4⟩ := hp.no hj
    obtain ⟨rfl, rfl⟩ : b = false ∧ ys = [] := by
      rcases HBB.out with ⟨_, hJ, _⟩ | ⟨rfl, _, rfl⟩
      · exact absurd hJ hj
      · exact ⟨rfl, rfl⟩
    have HB4 := Lib.hid (below_trans HB3.out hb4)
    clear hb4 hp hj HBB
    go_wp2_with fail
    go_ret2
    exact ⟨_, rfl, own_new w4 _ _ HB4.out.size enc3_len [] #[] rfl (by simp) rfl, below_alloc HB4.out _⟩

set_option maxRecDepth 20000 in
set_option maxHeartbeats 3200000 in
/-- RoadsAdd of the reference. -/
theorem specRoadsAdd_any (A : Option Addr) (n : Int) (len cap : Nat) (xs : List T3) (x y : Int) (z : Int) (ys : List T3) (b : Bool) (w : World) (h : SlE 3 enc3 w A len xs) (hn : len ≤ 1048577) (h1 : -1000000 ≤ n) (h2 : n ≤ 1000000)
    (hb : (b = true ∧ RoadOk n (xs ++ [⟨x, y, z⟩]) ∧ ys = xs ++ [⟨x, y, z⟩]) ∨ (b = false ∧ ¬ RoadOk n (xs ++ [⟨x, y, z⟩]) ∧ ys = [])) :
    Calls Tryz.prog 73 #[.int .i64 n, .slice A len cap, .agg #[.int .i64 x, .int .i64 y, .int .i64 z]] w (RetOwnB 3 enc3 43 ys b w) := by
  have H := Lib.hid h
  have HB := Lib.hid hb
  have hl1 := h.len
  have HL := Lib.hid hl1
  clear h hb hl1
  have n1 : (([] : List T3).length + len) * 24 ≤ 140737488355328 ∧ ([] : List T3).length + len ≤ maxLen := by rw [List.length_nil]; exact ⟨by omega, by unfold maxLen; omega⟩
  have n2 : (([] ++ xs).length + 1) * 24 ≤ 140737488355328 ∧ ([] ++ xs).length + 1 ≤ maxLen := by rw [List.nil_append, HL.out]; exact ⟨by omega, by unfold maxLen; omega⟩
  have N1 := Lib.hid n1
  have N2 := Lib.hid n2
  clear n1 n2
  generalize hC : Obj.cells #[.int .i64 x, .int .i64 y, .int .i64 z] 43 = C
  have HC := Lib.hid hC
  -- the world behind the box, and what may follow it
  have b0 := below_alloc (Below.refl w.heap.size w) C
  have hz0 : w.heap.size ≤ (w.alloc C).heap.size := by simp
  have hsh : ∀ W, Below (w.heap.size + 1) (w.alloc C) W → Below w.heap.size w W := fun W hW => b0.trans (hW.mono (by omega))
  have hcl : ∀ W, Below (w.heap.size + 1) (w.alloc C) W → W.cell? ⟨w.heap.size, 0, none⟩ = some (.int .i64 x) ∧ W.cell? ⟨w.heap.size, 1, none⟩ = some (.int .i64 y) ∧ W.cell? ⟨w.heap.size, 2, none⟩ = some (.int .i64 z) := by
    intro W hW
    have hr : ∀ j, W.cell? ⟨w.heap.size, j, none⟩ = (#[.int .i64 x, .int .i64 y, .int .i64 z] : Array Value)[j]? := fun j => by
      rw [hW.cell (p := ⟨w.heap.size, j, none⟩) (by simp), ← HC.out]
      exact cell_of_row _ _ j _ 43 (0, 0) (heap_alloc_new w _)
    exact ⟨hr 0, hr 1, hr 2⟩
  have HSH := Lib.hid hsh
  have HCL := Lib.hid hcl
  have ow : ∀ (W : World) (g : Nat), w.heap.size + 1 ≤ W.heap.size → g = W.heap.size → OwnE 3 enc3 43 (w.heap.size + 1) (W.alloc (.cells #[] 43)) (.slice (some ⟨g, 0, none⟩) 0 0) [] :=
    fun W g h1 h2 => own_new' W _ _ h1 enc3_len [] #[] rfl (by simp) rfl h2
  have sn : ∀ (W : World) (g : Nat), g = W.heap.size → SlE 3 enc3 (W.alloc C) (some ⟨g, 0, none⟩) 1 [⟨x, y, z⟩] :=
    fun W g h2 => HC.out ▸ slE_new W _ enc3_len [⟨x, y, z⟩] #[.int .i64 x, .int .i64 y, .int .i64 z] rfl (by simp [maxLen]) rfl h2
  -- the three worlds in which the first append may run
  have z1 : (w.alloc C).heap.size = w.heap.size + 1 := by simp
  have z2 : ((w.alloc C).alloc C).heap.size = w.heap.size + 1 + 1 := by simp
  have z3 : ((w.alloc C).alloc (.cells #[] 43)).heap.size = w.heap.size + 1 + 1 := by simp
  have B0 := Lib.hid (Below.refl (w.heap.size + 1) (w.alloc C)).drew
  have Ba := Lib.hid ((Below.refl (w.heap.size + 1) (w.alloc C)).alloc (by omega) (.cells #[] 43)).drew
  have Bb := Lib.hid (((Below.refl (w.heap.size + 1) (w.alloc C)).alloc (by omega) (.cells #[] 43)).alloc (by omega) C).drew
  have Bc := Lib.hid ((Below.refl (w.heap.size + 1) (w.alloc C)).alloc (by omega) C).drew
  have Bd := Lib.hid (((Below.refl (w.heap.size + 1) (w.alloc C)).alloc (by omega) C).alloc (by omega) (.cells #[] 43)).drew
  have Oa := Lib.hid (ow (w.alloc C) (w.heap.size + 1) (by omega) z1.symm).drew
  have Ob := Lib.hid ((ow (w.alloc C) (w.heap.size + 1) (by omega) z1.symm).alloc C).drew
  have Od := Lib.hid (ow ((w.alloc C).alloc C) (w.heap.size + 1 + 1) (by omega) z2.symm).drew
  have Sb := Lib.hid (sn ((w.alloc C).alloc (.cells #[] 43)) (w.heap.size + 1 + 1) z3.symm).drew
  have Sd := Lib.hid ((sn (w.alloc C) (w.heap.size + 1) z1.symm).alloc (.cells #[] 43)).drew
  have Xa := Lib.hid (show w.heap.size + 1 ≤ ((w.alloc C).alloc (.cells #[] 43)).drew.heap.size from by simp)
  have Xb := Lib.hid (show w.heap.size + 1 ≤ (((w.alloc C).alloc (.cells #[] 43)).alloc C).drew.heap.size from by simp <;> omega)
  have Xd := Lib.hid (show w.heap.size + 1 ≤ (((w.alloc C).alloc C).alloc (.cells #[] 43)).drew.heap.size from by simp)
  have Ra := Lib.hid (show ∀ j, Value.ownBlock (.slice (some ⟨w.heap.size + 1, 0, none⟩) 0 0) = some j → w.heap.size + 1 ≤ j from fun j hj => by simp [Value.ownBlock] at hj; omega)
  have Rd := Lib.hid (show ∀ j, Value.ownBlock (.slice (some ⟨w.heap.size + 1 + 1, 0, none⟩) 0 0) = some j → w.heap.size + 1 ≤ j from fun j hj => by simp [Value.ownBlock] at hj; omega)
  have Nb := Lib.hid (show Value.ownBlock (.slice (some ⟨w.heap.size + 1, 0, none⟩) 0 0) ≠ some (w.heap.size + 1 + 1) from by simp [Value.ownBlock])
  have Nd := Lib.hid (show Value.ownBlock (.slice (some ⟨w.heap.size + 1 + 1, 0, none⟩) 0 0) ≠ some (w.heap.size + 1) from by simp [Value.ownBlock])
  have SN := Lib.hid sn
  clear ow sn z1 z2 z3 hz0 hsh hcl b0
  subst hC
  go_enter Tryz.func73, Tryz.ntmps73
  go_wp2_with fail
  go_region_held3 (fun W => W.cell? ⟨w.heap.size, 0, none⟩ = some (.int .i64 x) ∧ W.cell? ⟨w.heap.size, 1, none⟩ = some (.int .i64 y) ∧ W.cell? ⟨w.heap.size, 2, none⟩ = some (.int .i64 z))
    (first | exact HCL.out _ B0.out | exact HCL.out _ Ba.out | exact HCL.out _ Bb.out | exact HCL.out _ Bc.out | exact HCL.out _ Bd.out | (have := B1.out; exact HCL.out _ this) | (have := B1'.out; exact HCL.out _ this) | (have := B2.out; exact HCL.out _ this) | (have := B1.out.alloc X1.out (.cells #[.int .i64 x, .int .i64 y, .int .i64 z] 43); exact HCL.out _ this))
    (first
      | (refine step_cat (bytes := 24) (base := w.heap.size + 1) enc3_len enc3_one (Nat.succ_pos 2) rfl (.tmp 9) (.tmp 10) _ rfl Tryz.underlying38 info_conR rfl _ [] rfl Oa.out rfl (H.out.below (HSH.out _ Ba.out)) N1.out.1 N1.out.2 Xa.out ?_; intro v1 w1 hown1 hg1; have X1 := Lib.hid (Nat.le_trans Xa.out hg1.size); have B1 := Lib.hid (Ba.out.grown hg1 Xa.out Ra.out);  have O1 := Lib.hid hown1; clear hown1 hg1)
      | (refine step_cat (bytes := 24) (base := w.heap.size + 1) enc3_len enc3_one (Nat.succ_pos 2) rfl (.tmp 9) (.tmp 10) _ rfl Tryz.underlying38 info_conR rfl _ [] rfl Ob.out rfl (H.out.below (HSH.out _ Bb.out)) N1.out.1 N1.out.2 Xb.out ?_; intro v1 w1 hown1 hg1; have X1 := Lib.hid (Nat.le_trans Xb.out hg1.size); have B1 := Lib.hid (Bb.out.grown hg1 Xb.out Ra.out); have S1 := Lib.hid (Sb.out.grown hg1 Nb.out); have O1 := Lib.hid hown1; clear hown1 hg1)
      | (refine step_cat (bytes := 24) (base := w.heap.size + 1) enc3_len enc3_one (Nat.succ_pos 2) rfl (.tmp 9) (.tmp 10) _ rfl Tryz.underlying38 info_conR rfl _ [] rfl Od.out rfl (H.out.below (HSH.out _ Bd.out)) N1.out.1 N1.out.2 Xd.out ?_; intro v1 w1 hown1 hg1; have X1 := Lib.hid (Nat.le_trans Xd.out hg1.size); have B1 := Lib.hid (Bd.out.grown hg1 Xd.out Rd.out); have S1 := Lib.hid (Sd.out.grown hg1 Nd.out); have O1 := Lib.hid hown1; clear hown1 hg1)
      | (refine step_cat (bytes := 24) (base := w.heap.size + 1) enc3_len enc3_one (Nat.succ_pos 2) rfl (.tmp 11) (.tmp 13) _ rfl Tryz.underlying38 info_conR rfl _ _ rfl O1.out rfl S1.out N2.out.1 N2.out.2 X1.out ?_; intro v2 w2 hown2 hg2; have B2 := Lib.hid (B1.out.grown hg2 X1.out (fun j hj => (O1.out.lt j hj).1)); have O2 := Lib.hid hown2; clear hown2 hg2)
      | (go_loud (refine step_cat (bytes := 24) (base := w.heap.size + 1) enc3_len enc3_one (Nat.succ_pos 2) rfl (.tmp 11) (.tmp 13) _ rfl Tryz.underlying38 info_conR rfl _ _ rfl (O1.out.alloc _) rfl (SN.out w1 _ rfl) N2.out.1 N2.out.2 (Nat.le_trans X1.out (below_alloc (Below.refl _ w1) _).size) ?_; intro v2 w2 hown2 hg2; have B2 := Lib.hid ((B1.out.alloc X1.out _).grown hg2 (Nat.le_trans X1.out (below_alloc (Below.refl _ w1) _).size) (fun j hj => (O1.out.lt j hj).1)); have O2 := Lib.hid hown2; clear hown2 hg2)))
  all_goals
    have hown2 := O2.out.base_le (base' := w.heap.size) (Nat.le_succ _)
    have HB2 := Lib.hid (HSH.out _ B2.out)
    rw [List.nil_append] at hown2
    obtain ⟨A2, c2, rfl, hs2⟩ := hown2.sl enc3_len
    have HS2 := Lib.hid hs2
    have HO2 := Lib.hid hown2
    have hl3 : (xs ++ [(⟨x, y, z⟩ : T3)]).length ≤ 1048578 := by rw [List.length_append, HL.out]; simp; omega
    have B0' := Lib.hid hn
    clear hs2 hown2 O2 HSH HCL SN
    generalize (xs ++ [(⟨x, y, z⟩ : T3)]).length = len3 at *
    by_cases hz : RoadOk n (xs ++ [⟨x, y, z⟩])
    · obtain ⟨rfl, rfl⟩ : b = true ∧ ys = xs ++ [⟨x, y, z⟩] := by
        rcases HB.out with ⟨rfl, _, rfl⟩ | ⟨_, hJ, _⟩
        · exact ⟨rfl, rfl⟩
        · exact absurd hz hJ
      have HZ := Lib.hid hz
      clear hz
      go_wp2_with fail
      refine (specRoadsValid_any A2 n len3 c2 _ w2 HS2.out (by omega) h1 h2).mono ?_
      intro e w5 hp
      obtain ⟨rfl, hb5⟩ := hp.yes HZ.out
      have HB5 := Lib.hid (below_trans HB2.out hb5)
      have HO5 := Lib.hid (HO2.out.below hb5 (Nat.le_refl _))
      clear hb5 hp
      go_wp2
      go_ret2
      exact ⟨_, rfl, HO5.out, HB5.out⟩
    · obtain ⟨rfl, rfl⟩ : b = false ∧ ys = [] := by
        rcases HB.out with ⟨_, hJ, _⟩ | ⟨rfl, _, rfl⟩
        · exact absurd hJ hz
        · exact ⟨rfl, rfl⟩
      have HZ := Lib.hid hz
      clear hz
      go_wp2_with fail
      refine (specRoadsValid_any A2 n len3 c2 _ w2 HS2.out (by omega) h1 h2).mono ?_
      intro e w5 hp
      obtain ⟨rfl, hb5⟩ := hp.no HZ.out
      have HB5 := Lib.hid (below_trans HB2.out hb5)
      clear hb5 hp
      go_wp2
      go_ret2
      exact ⟨_, rfl, own_new w5 _ _ HB5.out.size enc3_len [] #[] rfl (by simp) rfl, below_alloc HB5.out _⟩
end Go.Proofs.YtgjllminidlolaaGreatDoor
/- Contracts: the heap of towns: its methods. -/
set_option linter.unusedVariables false
namespace Go.Proofs.YtgjllminidlolaaGreatDoor
open Go.RowKit

def enc2 (p : P2) : List Value := [.int .i64 p.t, .int .i64 p.d]
theorem enc2_len (x : P2) : (enc2 x).length = 2 := rfl
theorem enc2_one (x : P2) : ∀ u ∈ enc2 x, u.oneCell' = true := by intro u hu; simp [enc2] at hu; rcases hu with rfl | rfl <;> rfl
theorem info_town : (Tryz.prog.info? 150).map (fun i => (i.zero, i.size, i.bytes)) = some (some (.agg #[.int .i64 0, .int .i64 0]), 2, 16) := by kernel_rfl
theorem flat2_set : ∀ (xs : List P2) (j : Nat) (p : P2), j < xs.length →
    ((xs.flatMap enc2).set (j * 2) (.int .i64 p.t)).set (j * 2 + 1) (.int .i64 p.d) = (xs.set j p).flatMap enc2
  | [], _, _, h => absurd h (by simp)
  | x :: xs, 0, p, _ => by simp [enc2]
  | x :: xs, j + 1, p, h => by
    have ih := flat2_set xs j p (by simpa using h)
    have e0 : (j + 1) * 2 = j * 2 + 1 + 1 := by omega
    simp only [List.flatMap_cons, List.set_cons_succ, ← ih, enc2, List.cons_append, List.nil_append, e0]
theorem own2_set {w : World} {base ty g cap n : Nat} {xs : List P2} (h : OwnE 2 enc2 ty base w (.slice (some ⟨g, 0, none⟩) n cap) xs) (hn : xs.length = n) {j : Nat} (hj : j < n) (x y : Int) :
    OwnE 2 enc2 ty base ((w.setCell ⟨g, j * 2, none⟩ (.int .i64 x)).setCell ⟨g, j * 2 + 1, none⟩ (.int .i64 y)) (.slice (some ⟨g, 0, none⟩) n cap) (xs.set j ⟨x, y⟩) ∧
      w.grownBy ((w.setCell ⟨g, j * 2, none⟩ (.int .i64 x)).setCell ⟨g, j * 2 + 1, none⟩ (.int .i64 y)) (some g) := by
  subst hn
  have h1 := World.ownsRow.stored h (j * 2) (.int .i64 x)
  have h2 := World.ownsRow.stored h1.1 (j * 2 + 1) (.int .i64 y)
  refine ⟨?_, grown_trans h1.2 h2.2⟩
  unfold OwnE
  rw [List.length_set, ← flat2_set xs j ⟨x, y⟩ hj]
  exact h2.1
theorem OwnE.cell2 {ty base : Nat} {w : World} {g c n : Nat} {xs : List P2} (h : OwnE 2 enc2 ty base w (.slice (some ⟨g, 0, none⟩) n c) xs) {j : Nat} {p : P2} (hp : xs[j]? = some p) :
    w.cell? ⟨g, j * 2, none⟩ = some (.int .i64 p.t) ∧ w.cell? ⟨g, j * 2 + 1, none⟩ = some (.int .i64 p.d) :=
  ⟨OwnE.cell enc2_len h hp (i := 0) rfl, OwnE.cell enc2_len h hp (i := 1) rfl⟩
theorem grown_dr {a b : World} {r : Option Nat} (h : a.grownBy b r) : a.grownBy b.drew r := ⟨h.os, h.tape, h.output, h.size, h.block⟩
theorem bd_drewN {B : Nat} {a b : World} (h : Below B a b) (n : Nat) : Below B a (b.drewN n) := ⟨h.os, h.tape, h.output, h.size, h.block⟩
/-- The towns of a heap. -/
def lstF (n : Nat) (f : Nat → P2) : List P2 := (List.range n).map f
theorem lstF_len (n : Nat) (f : Nat → P2) : (lstF n f).length = n := by simp [lstF]
theorem lstF_at {n k : Nat} (f : Nat → P2) (h : k < n) : (lstF n f)[k]? = some (f k) := by simp [lstF, h]
theorem lstF_swap {n i j : Nat} (f : Nat → P2) (hi : i < n) (hj : j < n) : ((lstF n f).set i (f j)).set j (f i) = lstF n (swF f i j) := by
  apply List.ext_getElem?
  intro k
  by_cases hk : k < n
  · rw [lstF_at _ hk]
    by_cases e : k = j
    · subst e
      rw [List.getElem?_set_self (by rw [List.length_set, lstF_len]; exact hk), swF_r]
    · rw [List.getElem?_set_ne (fun h => e h.symm)]
      by_cases e2 : k = i
      · subst e2
        rw [List.getElem?_set_self (by rw [lstF_len]; exact hk), swF_l]
      · rw [List.getElem?_set_ne (fun h => e2 h.symm), lstF_at _ hk, swF_o _ e2 e]
  · rw [List.getElem?_eq_none (by rw [List.length_set, List.length_set, lstF_len]; omega), List.getElem?_eq_none (by rw [lstF_len]; omega)]
theorem lstF_congr {n : Nat} {f g : Nat → P2} (h : ∀ k, k < n → f k = g k) : lstF n f = lstF n g := by
  apply List.ext_getElem?
  intro k
  by_cases hk : k < n
  · rw [lstF_at _ hk, lstF_at _ hk, h k hk]
  · rw [List.getElem?_eq_none (by rw [lstF_len]; omega), List.getElem?_eq_none (by rw [lstF_len]; omega)]
theorem lstF_snoc (n : Nat) (f : Nat → P2) : lstF (n + 1) f = lstF n f ++ [f n] := by simp [lstF, List.range_succ]
theorem lstF_take (n : Nat) (f : Nat → P2) : (lstF (n + 1) f).take n = lstF n f := by
  rw [lstF_snoc, List.take_left' (lstF_len n f)]

set_option maxRecDepth 20000 in
set_option maxHeartbeats 1600000 in
theorem thLess_any (base g n c i j : Nat) (f : Nat → P2) (w : World) (h : OwnE 2 enc2 150 base w (.slice (some ⟨g, 0, none⟩) n c) (lstF n f)) (hi : i < n) (hj : j < n) :
    Calls Tryz.prog 248 #[.slice (some ⟨g, 0, none⟩) n c, .int .i64 i, .int .i64 j] w (OnlyB ((f i).d < (f j).d) w) := by
  have ci := (OwnE.cell2 h (lstF_at f hi)).2
  have cj := (OwnE.cell2 h (lstF_at f hj)).2
  clear h
  generalize (f i).d = x at *
  generalize (f j).d = y at *
  go_enter Tryz.func248, Tryz.ntmps248
  go_wp2_with fail
  go_quiet (fail)
  go_wp2_with fail
  go_ret
  exact ⟨_, rfl, by simp, bd_drewN (Below.refl _ _) _⟩
set_option maxRecDepth 20000 in
set_option maxHeartbeats 1600000 in
theorem thLen_any (v : Value) (A : Option Addr) (n c : Nat) (w : World) :
    Calls Tryz.prog 89 #[.slice A n c] w (Same (.int .i64 n) w) := by
  go_enter Tryz.func89, Tryz.ntmps89
  go_wp2_with fail
  go_ret
  exact ⟨rfl, rfl⟩
/-- Two towns have been exchanged. -/
def Swapped (base g n c : Nat) (f : Nat → P2) (w : World) (e : Ending) (w' : World) : Prop :=
  e = .returned (.tuple #[]) ∧ OwnE 2 enc2 150 base w' (.slice (some ⟨g, 0, none⟩) n c) (lstF n f) ∧ w.grownBy w' (some g)
set_option maxRecDepth 20000 in
set_option maxHeartbeats 3200000 in
theorem thSwap_any (base g n c i j : Nat) (f : Nat → P2) (w : World) (h : OwnE 2 enc2 150 base w (.slice (some ⟨g, 0, none⟩) n c) (lstF n f)) (hi : i < n) (hj : j < n) :
    Calls Tryz.prog 251 #[.slice (some ⟨g, 0, none⟩) n c, .int .i64 i, .int .i64 j] w (Swapped base g n c (swF f i j) w) := by
  obtain ⟨ci, ci'⟩ := OwnE.cell2 h (lstF_at f hi)
  obtain ⟨cj, cj'⟩ := OwnE.cell2 h (lstF_at f hj)
  have hfz := h.frozen
  have S1 := own2_set h (lstF_len n f) hi (f j).t (f j).d
  have S2 := own2_set S1.1 (by rw [List.length_set]; exact lstF_len n f) hj (f i).t (f i).d
  have e : ((lstF n f).set i ⟨(f j).t, (f j).d⟩).set j ⟨(f i).t, (f i).d⟩ = lstF n (swF f i j) := lstF_swap f hi hj
  rw [e] at S2
  have HS := Lib.hid (And.intro S2.1 (grown_trans S1.2 S2.2))
  have h1 : (w.setCell ⟨g, i * 2, none⟩ (.int .i64 (f j).t)).cell? ⟨g, j * 2, none⟩ = some (.int .i64 (f j).t) := by
    by_cases hij : i = j
    · subst hij; exact World.cell?_setCell_same _ _ _ ci
    · rw [World.cell?_setCell_other _ _ _ _ (by simp <;> omega)]; exact cj
  have h2 : ((w.setCell ⟨g, i * 2, none⟩ (.int .i64 (f j).t)).setCell ⟨g, i * 2 + 1, none⟩ (.int .i64 (f j).d)).cell? ⟨g, j * 2 + 1, none⟩ = some (.int .i64 (f j).d) := by
    by_cases hij : i = j
    · subst hij; exact World.cell?_setCell_same _ _ _ (by rw [World.cell?_setCell_other _ _ _ _ (by simp)]; exact ci')
    · rw [World.cell?_setCell_other _ _ _ _ (by simp <;> omega), World.cell?_setCell_other _ _ _ _ (by simp <;> omega)]; exact cj'
  have h3 : (w.setCell ⟨g, i * 2 + 1, none⟩ (.int .i64 (f j).d)).cell? ⟨g, j * 2 + 1, none⟩ = some (.int .i64 (f j).d) := by
    by_cases hij : i = j
    · subst hij; exact World.cell?_setCell_same _ _ _ ci'
    · rw [World.cell?_setCell_other _ _ _ _ (by simp <;> omega)]; exact cj'
  have hij2 : i * 2 ≠ j * 2 + 1 := by omega
  have hij3 : i * 2 + 1 ≠ j * 2 := by omega
  clear h S1 S2 e
  generalize (f i).t = p1 at *
  generalize (f i).d = p2 at *
  generalize (f j).t = q1 at *
  generalize (f j).d = q2 at *
  go_enter Tryz.func251, Tryz.ntmps251
  go_wp2_with fail
  go_region
  go_wp2_with fail
  go_end0
  exact ⟨rfl, HS.out.1, grown_dr HS.out.2⟩
end Go.Proofs.YtgjllminidlolaaGreatDoor
/- append(v, s...) as a step of a walk, with where the new slice lies. -/
set_option linter.unusedVariables false
namespace Go.Proofs.YtgjllminidlolaaGreatDoor
open Go.RowKit

section
variable {P : Program} {α : Type} {k bytes ty base : Nat} {enc : α → List Value} {W : World} {v : Value} {xs ys : List α}
theorem run_cat_at (hk : ∀ x, (enc x).length = k) (h1 : ∀ x, ∀ u ∈ enc x, u.oneCell' = true) (hk0 : 0 < k) {t tr : TypeId} (ht : P.underlying t = some (.slice ty)) {z : Value}
    (hinfo : (P.info? ty).map (fun i => (i.zero, i.size, i.bytes)) = some (some z, k, bytes)) (hz : z.cells.size = k) (hown : OwnE k enc ty base W v xs) {A : Option Addr} {m c : Nat} (hs : SlE k enc W A m ys)
    (hbytes : (xs.length + m) * bytes ≤ 140737488355328) (h63 : xs.length + m ≤ maxLen) (hbase : base ≤ W.heap.size) :
    ∃ v' w', (Builtin.append_ #[t, t] tr #[v, .slice A m c]).run P W = .ok v' w' ∧ OwnE k enc ty base w' v' (xs ++ ys) ∧ W.grownBy w' v.ownBlock ∧ (v'.ownBlock = v.ownBlock ∨ v'.ownBlock = some W.heap.size) := by
  obtain ⟨i0, hi, hz0, hz1, hz2⟩ := info_parts hinfo
  have hm := hs.len
  subst hm
  have hfl : ((xs ++ ys).flatMap enc) = xs.flatMap enc ++ ys.flatMap enc := by simp
  rcases A with _ | ad
  · have hm : ys.length = 0 := by
      rcases Nat.eq_zero_or_pos ys.length with h0 | h0
      · exact h0
      · obtain ⟨b, off, hA, _⟩ := hs.2 h0
        cases hA
    have hy : ys = [] := List.eq_nil_of_length_eq_zero hm
    subst hy
    refine ⟨v, W, ?_, by simpa using hown, World.grownBy.refl _ _, .inl rfl⟩
    rcases hown.2 with ⟨rfl, hx0⟩ | ⟨g, cap, cur, rfl, _, _, hnc, _⟩
    · simp [Builtin.append_, run_underlying ht, sizeOf, typeInfo, hi, Builtin.lenOf, Builtin.firstCells]
    · simp [Builtin.append_, run_underlying ht, sizeOf, typeInfo, hi, Builtin.lenOf, Builtin.firstCells, hnc, storeCells]
  · have hnews : ∀ j u, (ys.flatMap enc)[j]? = some u → W.cell? (ad.add j) = some u := by
      intro j u hu
      have hl : j < ys.length * k := by
        rcases Nat.lt_or_ge j (ys.length * k) with h | h
        · exact h
        · rw [List.getElem?_eq_none (by rw [flat_len hk]; exact h)] at hu; cases hu
      have h0 : 0 < ys.length := by
        rcases Nat.eq_zero_or_pos ys.length with h0 | h0
        · rw [h0] at hl; omega
        · exact h0
      obtain ⟨b, off, hA, _, hc⟩ := hs.2 h0
      injection hA with hA
      subst hA
      have hj : j / k < ys.length := (Nat.div_lt_iff_lt_mul hk0).2 hl
      have hi' : j % k < (enc ys[j / k]).length := by rw [hk]; exact Nat.mod_lt _ hk0
      have e : j / k * k + j % k = j := by rw [Nat.mul_comm]; exact Nat.div_add_mod j k
      have h3 := flat_at hk ys (j / k) _ (List.getElem?_eq_getElem hj) (j % k) _ (List.getElem?_eq_getElem hi')
      rw [e, hu] at h3
      have h4 := hc (j / k) _ (List.getElem?_eq_getElem hj) (j % k) _ (List.getElem?_eq_getElem hi')
      rw [e, ← h3] at h4
      unfold Addr.add
      split
      · rename_i hj0; rw [hj0] at h4; exact h4
      · exact h4
    obtain ⟨v', w', hr, h2, h3, _, h5⟩ := run_append_own_at (P := P) W base t tr ty i0 z k bytes ht hi hz0 hz1 hz2 hz hk0 v xs.length (xs.flatMap enc) hown ad ys.length c (ys.flatMap enc) (by rw [flat_len hk]) hnews
      (by intro u hu; obtain ⟨x, _, hx⟩ := List.mem_flatMap.1 hu; exact h1 x u hx) h63 hbytes hbase
    refine ⟨v', w', hr, ?_, h3, h5⟩
    unfold OwnE
    rw [hfl, List.length_append]
    exact h2
/-- append(v, s...) as a step of a walk. -/
theorem wpList_cat_at {ops : Array Oper} {rest : List Oper} {o : Oper} {a : Act} {Q : Exit → Act → World → Prop} (hk : ∀ x, (enc x).length = k) (h1 : ∀ x, ∀ u ∈ enc x, u.oneCell' = true) (hk0 : 0 < k)
    (hgd : o.guard = none) (s y : Operand) (t : TypeId) (ho : o.op = .call { callee := .builtin .append, args := #[s, y], argTypes := #[t, t] })
    (ht : P.underlying t = some (.slice ty)) {z : Value} (hinfo : (P.info? ty).map (fun i => (i.zero, i.size, i.bytes)) = some (some z, k, bytes)) (hz : z.cells.size = k)
    (v : Value) (xs : List α) (hsv : a.eval s = v) (hown : OwnE k enc ty base W v xs) {A : Option Addr} {m c : Nat} (hy : a.eval y = .slice A m c) (hs : SlE k enc W A m ys)
    (hbytes : (xs.length + m) * bytes ≤ 140737488355328) (h63 : xs.length + m ≤ maxLen) (hbase : base ≤ W.heap.size)
    (h : ∀ v' w', OwnE k enc ty base w' v' (xs ++ ys) → W.grownBy w' v.ownBlock → (v'.ownBlock = v.ownBlock ∨ v'.ownBlock = some W.heap.size) → wpList P ops Q rest (a.put o.dst v') w') :
    wpList P ops Q (o :: rest) a W := by
  obtain ⟨v', w', hr, h2, h3, h5⟩ := run_cat_at (P := P) (tr := o.type) hk h1 hk0 ht hinfo hz hown hs hbytes h63 hbase (c := c)
  exact Lib.wpList_append_run W hgd s y t t ho _ _ hsv hy v' w' hr (h v' w' h2 h3 h5)
end
end Go.Proofs.YtgjllminidlolaaGreatDoor
/- Contracts: the heap of towns: Push, Pop, up, down. -/
set_option linter.unusedVariables false
namespace Go.Proofs.YtgjllminidlolaaGreatDoor
open Go.RowKit

/-- append(v, s...) as a step of a region, with where the new slice lies. -/
theorem step_cat_at {P : Program} {α : Type} {k bytes ty base : Nat} {enc : α → List Value} {W : World} {ys : List α} {ops : Array Oper} {o : Oper} {a : Act} {K : Act → World → Prop} {Q : Exit → Act → World → Prop} {E : Prop} (hk : ∀ x, (enc x).length = k) (h1 : ∀ x, ∀ u ∈ enc x, u.oneCell' = true) (hk0 : 0 < k)
    (hgd : o.guard = none) (s y : Operand) (t : TypeId) (ho : o.op = .call { callee := .builtin .append, args := #[s, y], argTypes := #[t, t] })
    (ht : P.underlying t = some (.slice ty)) {z : Value} (hinfo : (P.info? ty).map (fun i => (i.zero, i.size, i.bytes)) = some (some z, k, bytes)) (hz : z.cells.size = k)
    (v : Value) (xs : List α) (hsv : a.eval s = v) (hown : OwnE k enc ty base W v xs) {A : Option Addr} {m c : Nat} (hy : a.eval y = .slice A m c) (hs : SlE k enc W A m ys)
    (hbytes : (xs.length + m) * bytes ≤ 140737488355328) (h63 : xs.length + m ≤ maxLen) (hbase : base ≤ W.heap.size)
    (h : ∀ v' w', OwnE k enc ty base w' v' (xs ++ ys) → W.grownBy w' v.ownBlock → (v'.ownBlock = v.ownBlock ∨ v'.ownBlock = some W.heap.size) → K (a.put o.dst v') w') :
    if Region.wanted o (yielded ops a.tmps) = true then Oper.wp P o a W K Q else E := by
  rw [if_pos (by simp [Region.wanted, hgd])]
  obtain ⟨v', w', hr, h2, h3, h5⟩ := run_cat_at (P := P) (tr := o.type) hk h1 hk0 ht hinfo hz hown hs hbytes h63 hbase (c := c)
  exact Lib.wp_append_run W s y t t ho _ _ hsv hy v' w' hr (h v' w' h2 h3 h5)

theorem grown_frozen' {w w' : World} {row : Option Nat} {g j : Nat} (h : w.grownBy w' row) (hg : g < w.heap.size) (hne : row ≠ some g) : w'.frozen? ⟨g, j, none⟩ = w.frozen? ⟨g, j, none⟩ := World.frozen?_of_block (w := w) (h.block g hg (fun e => hne e.symm))
/-- A heap of towns in memory; its slice avoids some blocks. -/
def HeapS (base hb : Nat) (av : Nat → Prop) (n : Nat) (f : Nat → P2) (W : World) : Prop :=
  ∃ g c, W.cell? ⟨hb, 0, none⟩ = some (.slice (some ⟨g, 0, none⟩) n c) ∧ W.frozen? ⟨hb, 0, none⟩ = false ∧ hb < W.heap.size ∧ base ≤ hb ∧
    OwnE 2 enc2 150 base W (.slice (some ⟨g, 0, none⟩) n c) (lstF n f) ∧ g ≠ hb ∧ ¬ av g
/-- Only the heap has turned. -/
def HKeep (hb g : Nat) (w w' : World) : Prop := w'.os = w.os ∧ w'.tape = w.tape ∧ w'.output = w.output ∧ w.heap.size ≤ w'.heap.size ∧ ∀ k, k < w.heap.size → k ≠ hb → k ≠ g → w'.heap[k]? = w.heap[k]?
theorem HKeep.cell {hb g : Nat} {w w' : World} (h : HKeep hb g w w') {b : Nat} (hb' : b < w.heap.size) (h1 : b ≠ hb) (h2 : b ≠ g) (o : Nat) : w'.cell? ⟨b, o, none⟩ = w.cell? ⟨b, o, none⟩ := by
  unfold World.cell?
  rw [h.2.2.2.2 b hb' h1 h2]
theorem hkeep_grown {hb g : Nat} {w w' : World} (h : w.grownBy w' (some g)) : HKeep hb g w w' := ⟨h.os, h.tape, h.output, h.size, fun k hk _ h2 => h.block k hk (fun e => h2 (Option.some.inj e))⟩
theorem hkeep_box {hb g : Nat} {w w' : World} (h : w.grownBy w' (some hb)) : HKeep hb g w w' := ⟨h.os, h.tape, h.output, h.size, fun k hk h1 _ => h.block k hk (fun e => h1 (Option.some.inj e))⟩
theorem hkeep_below {hb g : Nat} {w w' : World} (h : Below w.heap.size w w') : HKeep hb g w w' := ⟨h.os, h.tape, h.output, h.size, fun k hk _ _ => h.block k hk⟩
theorem HKeep.trans {hb g : Nat} {a b c : World} (h : HKeep hb g a b) (k : HKeep hb g b c) : HKeep hb g a c :=
  ⟨k.1.trans h.1, k.2.1.trans h.2.1, k.2.2.1.trans h.2.2.1, Nat.le_trans h.2.2.2.1 k.2.2.2.1, fun i hi h1 h2 => (k.2.2.2.2 i (Nat.lt_of_lt_of_le hi h.2.2.2.1) h1 h2).trans (h.2.2.2.2 i hi h1 h2)⟩

theorem push_form {base n : Nat} {f : Nat → P2} {W : World} {v : Value} (h : OwnE 2 enc2 150 base W v (lstF n f ++ [f n])) :
    ∃ g' c', v = .slice (some ⟨g', 0, none⟩) (n + 1) c' ∧ OwnE 2 enc2 150 base W (.slice (some ⟨g', 0, none⟩) (n + 1) c') (lstF (n + 1) f) := by
  rw [← lstF_snoc] at h
  obtain ⟨A, c, rfl, -, -⟩ := h.slc enc2_len (lstF_len (n + 1) f)
  obtain ⟨g', rfl, -, -, -, -⟩ := h.form (by rw [lstF_len]; omega)
  exact ⟨g', c, rfl, h⟩
theorem asTown (v : Value) (w : World) : (Instr.typeAssert (.iface 150 v) 20 150 false).run Tryz.prog w = .ok v w := by
  simp [Instr.typeAssert, run_underlying Tryz.underlying150, Result.andThen]
/-- How Push of the heap's slice ends. -/
def PushedS (base hb : Nat) (n : Nat) (f : Nat → P2) (w : World) (g : Nat) (e : Ending) (w' : World) : Prop :=
  e = .returned (.tuple #[]) ∧ ∃ g' c', w'.cell? ⟨hb, 0, none⟩ = some (.slice (some ⟨g', 0, none⟩) (n + 1) c') ∧ w'.frozen? ⟨hb, 0, none⟩ = false ∧
    OwnE 2 enc2 150 base w' (.slice (some ⟨g', 0, none⟩) (n + 1) c') (lstF (n + 1) f) ∧ (g' = g ∨ w.heap.size ≤ g') ∧ g' ≠ hb ∧ HKeep hb g w w'

theorem gset (W : World) (a : Addr) (v : Value) : W.grownBy (W.setCell a v) (some a.block) :=
  ⟨rfl, rfl, rfl, by rw [show (W.setCell a v).heap.size = W.heap.size by simp [World.setCell]]; exact Nat.le_refl _, fun k _ hk => Below.heap_setCell _ _ _ k (fun e => hk (by rw [e]))⟩
theorem push_end {base hb g n c2 g2 : Nat} {f : Nat → P2} {w w1 w2 : World} {v' : Value} (hlt : hb < w.heap.size) (hgw : g < w.heap.size) (hg : g ≠ hb) (hb1 : Below w.heap.size w w1) (hbase : base ≤ w1.heap.size)
    (ho : OwnE 2 enc2 150 base w2 (.slice (some ⟨g2, 0, none⟩) (n + 1) c2) (lstF (n + 1) f)) (hg2 : w1.grownBy w2 (some g)) (hl : some g2 = some g ∨ some g2 = some w1.heap.size)
    (hc2 : w2.cell? ⟨hb, 0, none⟩ = some v') (hz2 : w2.frozen? ⟨hb, 0, none⟩ = false) :
    ∃ g' c', (w2.setCell ⟨hb, 0, none⟩ (.slice (some ⟨g2, 0, none⟩) (n + 1) c2)).cell? ⟨hb, 0, none⟩ = some (.slice (some ⟨g', 0, none⟩) (n + 1) c') ∧ (w2.setCell ⟨hb, 0, none⟩ (.slice (some ⟨g2, 0, none⟩) (n + 1) c2)).frozen? ⟨hb, 0, none⟩ = false ∧
      OwnE 2 enc2 150 base (w2.setCell ⟨hb, 0, none⟩ (.slice (some ⟨g2, 0, none⟩) (n + 1) c2)) (.slice (some ⟨g', 0, none⟩) (n + 1) c') (lstF (n + 1) f) ∧ (g' = g ∨ w.heap.size ≤ g') ∧ g' ≠ hb ∧ HKeep hb g w (w2.setCell ⟨hb, 0, none⟩ (.slice (some ⟨g2, 0, none⟩) (n + 1) c2)) := by
  have hs := hb1.size
  have h2 : g2 = g ∨ w.heap.size ≤ g2 := by
    rcases hl with h | h
    · exact .inl (Option.some.inj h)
    · exact .inr (by have := Option.some.inj h; omega)
  have h3 : g2 ≠ hb := by
    rcases h2 with h | h
    · rw [h]; exact hg
    · omega
  have hgs := gset w2 ⟨hb, 0, none⟩ (.slice (some ⟨g2, 0, none⟩) (n + 1) c2)
  exact ⟨g2, c2, World.cell?_setCell_same _ _ _ hc2, by rw [World.frozen?_setCell]; exact hz2, ho.apart hgs (.inr (fun e => h3 (Option.some.inj e))), h2, h3,
    ((hkeep_below hb1).trans (hkeep_grown hg2)).trans (hkeep_box hgs)⟩

set_option maxRecDepth 20000 in
set_option maxHeartbeats 3200000 in
theorem thPush_any (base hb g n c : Nat) (f : Nat → P2) (p : P2) (w : World) (hc : w.cell? ⟨hb, 0, none⟩ = some (.slice (some ⟨g, 0, none⟩) n c)) (hz : w.frozen? ⟨hb, 0, none⟩ = false) (hlt : hb < w.heap.size) (hbase : base ≤ w.heap.size)
    (ho : OwnE 2 enc2 150 base w (.slice (some ⟨g, 0, none⟩) n c) (lstF n f)) (hg : g ≠ hb) (hn : n ≤ 1000000) (hp : f n = p) :
    Calls Tryz.prog 250 #[.pointer (some ⟨hb, 0, none⟩), .iface 150 (.agg #[.int .i64 p.t, .int .i64 p.d])] w (PushedS base hb n f w g) := by
  subst hp
  have HO := Lib.hid ho
  have hgw := (ho.lt g rfl).2
  have HS0 := Lib.hid (And.intro hc hz)
  have hnn : some g ≠ some hb := fun e => hg (Option.some.inj e)
  have HNN := Lib.hid hnn
  have hl := lstF_len n f
  have n1 : ((lstF n f).length + 1) * 16 ≤ 140737488355328 := by rw [hl]; omega
  have n2 : (lstF n f).length + 1 ≤ maxLen := by rw [hl]; unfold maxLen; omega
  have N := Lib.hid (And.intro n1 n2)
  have hta := asTown
  clear ho hc hz hnn hl n1 n2
  go_enter Tryz.func250, Tryz.ntmps250
  have hs : (w.alloc (.cells #[.int .i64 (f n).t, .int .i64 (f n).d] 150)).heap.size = w.heap.size + 1 := by show (w.heap.push _).size = _; rw [Array.size_push]
  have HO1 := Lib.hid (OwnE.drew (HO.out.alloc (.cells #[.int .i64 (f n).t, .int .i64 (f n).d] 150)))
  have S1 := Lib.hid (SlE.drew (slE_new (k := 2) (enc := enc2) w 150 enc2_len [f n] #[.int .i64 (f n).t, .int .i64 (f n).d] rfl (by simp [maxLen]) (n := 1) rfl (g := w.heap.size) rfl))
  have HB1 := Lib.hid (below_drew (below_alloc (Below.refl w.heap.size w) (.cells #[.int .i64 (f n).t, .int .i64 (f n).d] 150)))
  have hc1 : (w.alloc (.cells #[.int .i64 (f n).t, .int .i64 (f n).d] 150)).drew.cell? ⟨hb, 0, none⟩ = some (.slice (some ⟨g, 0, none⟩) n c) := by rw [HB1.out.cell (by exact hlt)]; exact HS0.out.1
  have hz1 : (w.alloc (.cells #[.int .i64 (f n).t, .int .i64 (f n).d] 150)).drew.frozen? ⟨hb, 0, none⟩ = false := by rw [HB1.out.frozen (by exact hlt)]; exact HS0.out.2
  have hlt1 : hb < (w.alloc (.cells #[.int .i64 (f n).t, .int .i64 (f n).d] 150)).drew.heap.size := Nat.lt_of_lt_of_le hlt HB1.out.size
  have HC1 := Lib.hid (And.intro hc1 hz1)
  have hb1 : base ≤ (w.alloc (.cells #[.int .i64 (f n).t, .int .i64 (f n).d] 150)).drew.heap.size := Nat.le_trans hbase HB1.out.size
  have HBS := Lib.hid hb1
  have HLT := Lib.hid hlt1
  clear hc1 hz1 hlt1 hb1
  go_wp2_with fail
  obtain ⟨hc, hz⟩ := HS0.out
  go_region_law (refine step_cat_at (bytes := 16) (base := base) enc2_len enc2_one (Nat.succ_pos 1) rfl (.tmp 7) (.tmp 10) _ rfl Tryz.underlying152 info_town rfl _ (lstF n f) rfl HO1.out rfl S1.out N.out.1 N.out.2 HBS.out ?_; intro v2 w2 hown2 hg2 hl2; obtain ⟨g2, c2, rfl, hown3⟩ := push_form hown2; have O2 := Lib.hid hown3; have G2 := Lib.hid hg2; have L2 := Lib.hid hl2; have hc2 := ((grown_cell hg2 HLT.out HNN.out).trans HC1.out.1); have hz2 := ((grown_frozen' hg2 HLT.out HNN.out).trans HC1.out.2); clear hown2 hown3 hg2 hl2)
  all_goals
    go_end0
    exact ⟨rfl, push_end hlt hgw hg HB1.out HBS.out O2.out G2.out L2.out hc2 hz2⟩
end Go.Proofs.YtgjllminidlolaaGreatDoor
/- Contracts: the heap of towns: Pop, up, down. -/
set_option linter.unusedVariables false
namespace Go.Proofs.YtgjllminidlolaaGreatDoor
open Go.RowKit

/-- How Pop of the heap's slice ends. -/
def PoppedS (base hb g n c : Nat) (f : Nat → P2) (w : World) (e : Ending) (w' : World) : Prop :=
  e = .returned (.iface 150 (.agg #[.int .i64 (f n).t, .int .i64 (f n).d])) ∧ w'.cell? ⟨hb, 0, none⟩ = some (.slice (some ⟨g, 0, none⟩) n c) ∧ w'.frozen? ⟨hb, 0, none⟩ = false ∧
    OwnE 2 enc2 150 base w' (.slice (some ⟨g, 0, none⟩) n c) (lstF n f) ∧ HKeep hb g w w'
theorem pop_end {base hb g n c : Nat} {f : Nat → P2} {w w1 : World} {v' : Value} (hg : g ≠ hb) (hb1 : Below w.heap.size w w1)
    (ho : OwnE 2 enc2 150 base w1 (.slice (some ⟨g, 0, none⟩) (n + 1) c) (lstF (n + 1) f)) (hc2 : w1.cell? ⟨hb, 0, none⟩ = some v') (hz2 : w1.frozen? ⟨hb, 0, none⟩ = false) :
    (w1.setCell ⟨hb, 0, none⟩ (.slice (some ⟨g, 0, none⟩) n c)).cell? ⟨hb, 0, none⟩ = some (.slice (some ⟨g, 0, none⟩) n c) ∧ (w1.setCell ⟨hb, 0, none⟩ (.slice (some ⟨g, 0, none⟩) n c)).frozen? ⟨hb, 0, none⟩ = false ∧
    OwnE 2 enc2 150 base (w1.setCell ⟨hb, 0, none⟩ (.slice (some ⟨g, 0, none⟩) n c)) (.slice (some ⟨g, 0, none⟩) n c) (lstF n f) ∧ HKeep hb g w (w1.setCell ⟨hb, 0, none⟩ (.slice (some ⟨g, 0, none⟩) n c)) := by
  have hgs := gset w1 ⟨hb, 0, none⟩ (.slice (some ⟨g, 0, none⟩) n c)
  have h1 := ho.shrink enc2_len (lstF_len (n + 1) f) (Nat.le_succ n)
  rw [lstF_take] at h1
  exact ⟨World.cell?_setCell_same _ _ _ hc2, by rw [World.frozen?_setCell]; exact hz2, h1.apart hgs (.inr (fun e => hg (Option.some.inj e))), (hkeep_below hb1).trans (hkeep_box hgs)⟩

theorem hkeep_drew {hb g : Nat} {a b : World} (h : HKeep hb g a b) : HKeep hb g a b.drew := h
theorem pop_mid {base hb g n c : Nat} {f : Nat → P2} {w : World} {v : Value} {T : TypeId} (ho : OwnE 2 enc2 150 base w (.slice (some ⟨g, 0, none⟩) (n + 1) c) (lstF (n + 1) f)) (hc : w.cell? ⟨hb, 0, none⟩ = some v) (hz : w.frozen? ⟨hb, 0, none⟩ = false) (hlt : hb < w.heap.size) (p q : Int) :
    OwnE 2 enc2 150 base (w.alloc (.cells #[.int .i64 p, .int .i64 q] T)).drew (.slice (some ⟨g, 0, none⟩) (n + 1) c) (lstF (n + 1) f) ∧ Below w.heap.size w (w.alloc (.cells #[.int .i64 p, .int .i64 q] T)).drew ∧
    (w.alloc (.cells #[.int .i64 p, .int .i64 q] T)).drew.cell? ⟨hb, 0, none⟩ = some v ∧ (w.alloc (.cells #[.int .i64 p, .int .i64 q] T)).drew.frozen? ⟨hb, 0, none⟩ = false ∧
    (w.alloc (.cells #[.int .i64 p, .int .i64 q] T)).drew.cell? ⟨w.heap.size, 0, none⟩ = some (.int .i64 p) ∧ (w.alloc (.cells #[.int .i64 p, .int .i64 q] T)).drew.cell? ⟨w.heap.size, 1, none⟩ = some (.int .i64 q) := by
  have hB := below_drew (below_alloc (Below.refl w.heap.size w) (.cells #[.int .i64 p, .int .i64 q] T))
  have hr : ∀ j, (w.alloc (.cells #[.int .i64 p, .int .i64 q] T)).cell? ⟨w.heap.size, j, none⟩ = (#[.int .i64 p, .int .i64 q] : Array Value)[j]? := fun j => cell_of_row _ _ j _ T (0, 0) (heap_alloc_new w _)
  exact ⟨(ho.alloc _).drew, hB, by rw [hB.cell (by exact hlt)]; exact hc, by rw [hB.frozen (by exact hlt)]; exact hz, hr 0, hr 1⟩

set_option maxRecDepth 20000 in
set_option maxHeartbeats 3200000 in
theorem thPop_any (base hb g n c : Nat) (f : Nat → P2) (w : World) (hc : w.cell? ⟨hb, 0, none⟩ = some (.slice (some ⟨g, 0, none⟩) (n + 1) c)) (hz : w.frozen? ⟨hb, 0, none⟩ = false) (hlt : hb < w.heap.size)
    (ho : OwnE 2 enc2 150 base w (.slice (some ⟨g, 0, none⟩) (n + 1) c) (lstF (n + 1) f)) (hg : g ≠ hb) (hn : n ≤ 1000000) :
    Calls Tryz.prog 249 #[.pointer (some ⟨hb, 0, none⟩)] w (PoppedS base hb g n c f w) := by
  obtain ⟨ci, ci'⟩ := OwnE.cell2 ho (lstF_at f (Nat.lt_succ_self n))
  have hcap : n + 1 ≤ c := by
    obtain ⟨_, _, hv, -, hle⟩ := ho.slc enc2_len (lstF_len (n + 1) f)
    injection hv with _ _ hv
    omega
  have HO := Lib.hid ho
  have hgw := (ho.lt g rfl).2
  have e1 : ((n + 1 : Nat) : Int) - 1 = (n : Int) := by omega
  have hnc : (n : Int) ≤ (c : Int) := by omega
  clear ho
  obtain ⟨p, q, hpq⟩ : ∃ p q, (f n).t = p ∧ (f n).d = q := ⟨_, _, rfl, rfl⟩
  have HPQ := Lib.hid hpq
  rw [hpq.1] at ci
  rw [hpq.2] at ci'
  clear hpq
  go_enter Tryz.func249, Tryz.ntmps249
  go_wp2_with fail
  go_region
  go_wp2_with fail
  have hAll := pop_mid (T := 150) HO.out hc hz hlt p q
  clear hc hz ci ci' hgw
  revert hAll
  generalize (w.alloc (.cells #[.int .i64 p, .int .i64 q] 150)).drew = W1
  rintro ⟨hO1, hB1, hc, hz, c0, c1⟩
  have HE := Lib.hid (pop_end (hb := hb) (w := w) hg hB1 hO1 hc hz)
  have hw1 : w.heap.size ≠ hb := by omega
  have c0' : (W1.setCell ⟨hb, 0, none⟩ (.slice (some ⟨g, 0, none⟩) n c)).cell? ⟨w.heap.size, 0, none⟩ = some (.int .i64 p) := by rw [World.cell?_setCell_other _ _ _ _ (by simp <;> omega)]; exact c0
  have c1' : (W1.setCell ⟨hb, 0, none⟩ (.slice (some ⟨g, 0, none⟩) n c)).cell? ⟨w.heap.size, 1, none⟩ = some (.int .i64 q) := by rw [World.cell?_setCell_other _ _ _ _ (by simp <;> omega)]; exact c1
  clear hO1 hB1
  go_region
  go_wp2_with fail
  go_ret
  exact ⟨by rw [HPQ.out.1, HPQ.out.2]; rfl, HE.out.1, HE.out.2.1, HE.out.2.2.1, hkeep_drew HE.out.2.2.2⟩
end Go.Proofs.YtgjllminidlolaaGreatDoor
/- Contracts: container/heap: up, down, Push, Pop. -/
set_option linter.unusedVariables false
namespace Go.Proofs.YtgjllminidlolaaGreatDoor
open Go.RowKit

theorem wrapchk (P : Program) (t : TypeId) (a : Addr) (s s' : String) (W : World) : (Builtin.ssaWrapNilChk_ #[t] t #[.pointer (some a), strVal s', strVal s]).run P W = .ok (.pointer (some a)) W := rfl
theorem loadTH (a : Addr) (W : World) (v : Value) (h : W.cell? a = some v) : (loadVar 152 a).run Tryz.prog W = .ok v W := by
  have e : (isAgg 152).run Tryz.prog W = .ok false W := by kernel_rfl
  simp [loadVar, e, Result.andThen]
  simp [go_sem, h]
/-- Which function a method of the heap is. -/
theorem mLess {W : World} {hb : Nat} {v : Value} (h : W.cell? ⟨hb, 0, none⟩ = some v) : (method 391 148 (.pointer (some ⟨hb, 0, none⟩)) "Less").run Tryz.prog W = .ok (248, v) W := by
  rw [Go.method.eq_2]
  simp [Tryz.t148, Go.follow, Go.receiverAt]
  simp [Go.Place.get, wrapchk, asAddr, loadTH _ _ _ h, Result.andThen]
theorem mSwap {W : World} {hb : Nat} {v : Value} (h : W.cell? ⟨hb, 0, none⟩ = some v) : (method 391 148 (.pointer (some ⟨hb, 0, none⟩)) "Swap").run Tryz.prog W = .ok (251, v) W := by
  rw [Go.method.eq_2]
  simp [Tryz.t148, Go.follow, Go.receiverAt]
  simp [Go.Place.get, wrapchk, asAddr, loadTH _ _ _ h, Result.andThen]
theorem mLen {W : World} {hb : Nat} {v : Value} (h : W.cell? ⟨hb, 0, none⟩ = some v) : (method 391 148 (.pointer (some ⟨hb, 0, none⟩)) "Len").run Tryz.prog W = .ok (89, v) W := by
  rw [Go.method.eq_2]
  simp [Tryz.t148, Go.follow, Go.receiverAt]
  simp [Go.Place.get, wrapchk, asAddr, loadTH _ _ _ h, Result.andThen]
/-- The heap's slice in its cell. -/
def HdrS (hb g n c : Nat) (w : World) : Prop := w.cell? ⟨hb, 0, none⟩ = some (.slice (some ⟨g, 0, none⟩) n c) ∧ w.frozen? ⟨hb, 0, none⟩ = false ∧ hb < w.heap.size ∧ g ≠ hb
theorem HdrS.grown {hb g n c : Nat} {w w' : World} (h : HdrS hb g n c w) (hg : w.grownBy w' (some g)) : HdrS hb g n c w' := by
  have hn : some g ≠ some hb := fun e => h.2.2.2 (Option.some.inj e)
  exact ⟨by rw [grown_cell hg h.2.2.1 hn]; exact h.1, by rw [grown_frozen' hg h.2.2.1 hn]; exact h.2.1, Nat.lt_of_lt_of_le h.2.2.1 hg.size, h.2.2.2⟩
theorem grown_andB {a b c : World} {r : Option Nat} (h : a.grownBy b r) (k : Below b.heap.size b c) : a.grownBy c r := grown_trans h ⟨k.os, k.tape, k.output, k.size, fun j hj _ => k.block j hj⟩
/-- The heap has been put in order. -/
def Ordered (base g n c : Nat) (f : Nat → P2) (w : World) (w' : World) : Prop :=
  ∃ f', HeapF n f' ∧ (∀ y, bagF n f' y ↔ bagF n f y) ∧ OwnE 2 enc2 150 base w' (.slice (some ⟨g, 0, none⟩) n c) (lstF n f') ∧ w.grownBy w' (some g)

set_option maxRecDepth 20000 in
set_option maxHeartbeats 3200000 in
theorem up_any (base hb g n c j0 : Nat) (f : Nat → P2) (w : World) (hh : HdrS hb g n c w) (ho : OwnE 2 enc2 150 base w (.slice (some ⟨g, 0, none⟩) n c) (lstF n f)) (hn : n ≤ 1000000) (hj0 : j0 < n) (hup : UpI n f j0) :
    Calls Tryz.prog 118 #[.iface 148 (.pointer (some ⟨hb, 0, none⟩)), .int .i64 j0] w (fun e w' => e = .returned (.tuple #[]) ∧ Ordered base g n c f w w') := by
  have HH := Lib.hid hh
  have HO := Lib.hid ho
  have HU := Lib.hid hup
  clear hh ho hup
  go_enter Tryz.func118, Tryz.ntmps118
  go_wp2_with fail
  go_loopw [1, 4] (fun j _ wr => ∃ (k : Nat) (f' : Nat → P2), k < n ∧ j = .int .i64 k ∧ UpI n f' k ∧ (∀ y, bagF n f' y ↔ bagF n f y) ∧ OwnE 2 enc2 150 base wr (.slice (some ⟨g, 0, none⟩) n c) (lstF n f') ∧ w.grownBy wr (some g)) (fun j _ _ => (intOf j).toNat)
  case atStart => exact ⟨j0, f, hj0, rfl, HU.out, fun y => Iff.rfl, HO.out, World.grownBy.refl _ _⟩
  case round =>
    obtain ⟨k, f', hk, rfl, hup, hbag, hown, hgr⟩ := hrel
    have HU := Lib.hid hup
    have HBG := Lib.hid hbag
    have HO := Lib.hid hown
    have HG := Lib.hid hgr
    obtain ⟨q0, q1, q2, q3⟩ := HH.out.grown hgr
    clear hup hbag hown hgr
    by_cases hk0 : k = 0
    · subst hk0
      go_wp2_with fail
      go_end0
      exact ⟨rfl, f', up_top HU.out, HBG.out, HO.out, HG.out⟩
    · obtain ⟨i, hi⟩ : ∃ i : Nat, (k - 1) / 2 = i := ⟨_, rfl⟩
      have d1 : ((k : Int) - 1) / 2 = (i : Int) := by omega
      have d2 : ((k : Int) - 1).tdiv 2 = (i : Int) := by rw [Int.tdiv_eq_ediv_of_nonneg (by omega)]; exact d1
      have d3 : ((i : Int) == (k : Int)) = false := by simp; omega
      have d4 : 0 ≤ (k : Int) - 1 := by omega
      have hin : i < n := by omega
      have HI := Lib.hid hi
      clear hi
      have mL := mLess q0
      by_cases hl : (f' k).d < (f' i).d
      · have HL := Lib.hid hl
        clear hl
        go_wp2_with fail
        refine (thLess_any base g n c k i f' wr HO.out hk hin).mono ?_
        intro e w2 hp
        obtain ⟨rfl, hb2⟩ := hp.yes HL.out
        have HO2 := Lib.hid (HO.out.below hb2 (Nat.le_refl _))
        have HG2 := Lib.hid (grown_andB HG.out hb2)
        obtain ⟨r0, r1, r2, r3⟩ := HH.out.grown HG2.out
        have mS := mSwap r0
        have HIK := Lib.hid (up_step HU.out (by omega) hk (by rw [HI.out]; exact HL.out))
        rw [HI.out] at HIK
        clear hp hb2 mL q0 q1
        go_wp2_with fail
        refine (thSwap_any base g n c i k f' w2 HO2.out hin hk).mono ?_
        rintro e w3 ⟨rfl, hown3, hg3⟩
        have HO3 := Lib.hid hown3
        have HG3 := Lib.hid (grown_trans HG2.out hg3)
        clear hown3 hg3 mS r0 r1
        go_wp2_with fail
        go_roundw
        case rel => exact ⟨i, _, hin, rfl, HIK.out, fun y => (bag_swap hin hk y).trans (HBG.out y), HO3.out, HG3.out⟩
        case measure => simp [intOf]; omega
      · have HL := Lib.hid hl
        clear hl
        go_wp2_with fail
        refine (thLess_any base g n c k i f' wr HO.out hk hin).mono ?_
        intro e w2 hp
        obtain ⟨rfl, hb2⟩ := hp.no (by have := HL.out; omega)
        have HO2 := Lib.hid (HO.out.below hb2 (Nat.le_refl _))
        have HG2 := Lib.hid (grown_andB HG.out hb2)
        clear hp hb2 mL q0 q1
        go_wp2_with fail
        go_end0
        exact ⟨rfl, f', up_stop HU.out (by rw [HI.out]; have := HL.out; omega), HBG.out, HO2.out, HG2.out⟩
end Go.Proofs.YtgjllminidlolaaGreatDoor
