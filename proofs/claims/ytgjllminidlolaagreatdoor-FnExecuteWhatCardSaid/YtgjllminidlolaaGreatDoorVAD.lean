/- Texts of mine in one: SWalkK SWalkE SWalkF SWalkG IntN SWalkH. -/
import Derived.Test.YtgjllminidlolaaGreatDoorVAC
import Derived.Deep.RegionHeld3
import Derived.StillTailTactics
import Derived.Test.YtgjllminidlolaaGreatDoorVAA
import Derived.Test.YtgjllminidlolaaGreatDoorVAB
/- Contracts: SeatsBook. -/
set_option linter.unusedVariables false
namespace Go.Proofs.YtgjllminidlolaaGreatDoor
open Go.RowKit

/-- Whether joined lists are bookings. -/
def BJoinOk (n : Int) (xs ys : List B3) : Prop := BookOk n xs ∧ BookOk n (xs ++ ys)

set_option maxRecDepth 20000 in
set_option maxHeartbeats 1600000 in
theorem implSeatsBook_no1 (A : Option Addr) (n : Int) (len cap : Nat) (xs : List B3) (x y : Int) (z : Bool) (w : World) (h : SlE 3 encB w A len xs) (hn : len ≤ 1048577) (hB : ¬ BookOk n xs) :
    Calls Tryz.prog 212 #[.int .i64 n, .slice A len cap, .agg #[.int .i64 x, .int .i64 y, .bool z]] w (RetOwnB 3 encB 34 ([] : List B3) false w) := by
  have H := Lib.hid h
  have HN := Lib.hid hB
  have HB0 := Lib.hid (below_alloc (Below.refl w.heap.size w) (.cells #[.int .i64 x, .int .i64 y, .bool z] 34))
  clear h hB
  go_enter Tryz.func212, Tryz.ntmps212
  go_wp2_with fail
  refine (implBookingsValid_any A n len cap xs _ (H.out.below HB0.out) (by omega)).mono ?_
  intro e w2 hp
  obtain ⟨rfl, hb2⟩ := hp.no HN.out
  have HB2 := Lib.hid (below_trans HB0.out hb2)
  clear hb2 hp
  go_wp2_with fail
  go_ret2
  exact ⟨_, rfl, own_new w2 _ _ HB2.out.size encB_len [] #[] rfl (by simp) rfl, below_alloc HB2.out _⟩
set_option maxRecDepth 20000 in
set_option maxHeartbeats 1600000 in
/-- SeatsBook of the program. -/
theorem implSeatsBook_any (A : Option Addr) (n : Int) (len cap : Nat) (xs : List B3) (x y : Int) (z : Bool) (ys : List B3) (b : Bool) (w : World) (h : SlE 3 encB w A len xs) (hn : len ≤ 1048577)
    (hb : (b = true ∧ BJoinOk n xs [⟨x, y, z⟩] ∧ ys = xs ++ [⟨x, y, z⟩]) ∨ (b = false ∧ ¬ BJoinOk n xs [⟨x, y, z⟩] ∧ ys = [])) :
    Calls Tryz.prog 212 #[.int .i64 n, .slice A len cap, .agg #[.int .i64 x, .int .i64 y, .bool z]] w (RetOwnB 3 encB 34 ys b w) := by
  by_cases hx : BookOk n xs
  rotate_left
  · obtain ⟨rfl, rfl⟩ : b = false ∧ ys = [] := by
      rcases hb with ⟨_, hJ, _⟩ | ⟨rfl, _, rfl⟩
      · exact absurd hJ.1 hx
      · exact ⟨rfl, rfl⟩
    exact implSeatsBook_no1 A n len cap xs x y z w h hn hx
  have H := Lib.hid h
  have HX := Lib.hid hx
  have HBB := Lib.hid hb
  have HB0 := Lib.hid (below_alloc (Below.refl w.heap.size w) (.cells #[.int .i64 x, .int .i64 y, .bool z] 34))
  have HCL := Lib.hid (fun (W : World) (hW : Below (w.alloc (.cells #[.int .i64 x, .int .i64 y, .bool z] 34)).heap.size (w.alloc (.cells #[.int .i64 x, .int .i64 y, .bool z] 34)) W) => (show W.cell? ⟨w.heap.size, 0, none⟩ = some (.int .i64 x) ∧ W.cell? ⟨w.heap.size, 1, none⟩ = some (.int .i64 y) ∧ W.cell? ⟨w.heap.size, 2, none⟩ = some (.bool z) from by
    have hr : ∀ j, W.cell? ⟨w.heap.size, j, none⟩ = (#[.int .i64 x, .int .i64 y, .bool z] : Array Value)[j]? := fun j => by
      rw [hW.cell (p := ⟨w.heap.size, j, none⟩) (by simp)]
      exact cell_of_row _ _ j _ 34 (0, 0) (heap_alloc_new w _)
    exact ⟨hr 0, hr 1, hr 2⟩))
  have HLX := Lib.hid h.len
  clear h hx hb
  go_enter Tryz.func212, Tryz.ntmps212
  go_wp2_with fail
  refine (implBookingsValid_any A n len cap xs _ (H.out.below HB0.out) (by omega)).mono ?_
  intro e w2 hp
  obtain ⟨rfl, hb2⟩ := hp.yes HX.out
  obtain ⟨c0, c1, c2⟩ := HCL.out _ hb2
  have HB2 := Lib.hid (below_trans HB0.out hb2)
  have S2 := Lib.hid (slE_new (k := 3) (enc := encB) w2 34 encB_len [⟨x, y, z⟩] #[.int .i64 x, .int .i64 y, .bool z] rfl (by simp [maxLen]) (n := 1) rfl (g := w2.heap.size) rfl)
  have hs := slS_new (k := 3) (enc := encB) (w := w2.alloc (.cells #[.int .i64 x, .int .i64 y, .bool z] 34)) [⟨A, len, cap, xs⟩, ⟨some ⟨w2.heap.size, 0, none⟩, 1, 1, [⟨x, y, z⟩]⟩] #[.slice A len cap, .slice (some ⟨w2.heap.size, 0, none⟩) 1 1] 26 rfl (m := 2) rfl (by
    intro s hs
    simp only [List.mem_cons, List.not_mem_nil, or_false] at hs
    rcases hs with rfl | rfl
    · exact (H.out.below HB2.out).alloc _
    · exact S2.out)
  rw [show (w2.alloc (.cells #[.int .i64 x, .int .i64 y, .bool z] 34)).heap.size = w2.heap.size + 1 by simp] at hs
  have HS := Lib.hid hs
  clear hb2 hp hs HCL
  go_wp2_with fail
  refine (concatB_any HS.out (by omega) (by simp [snLen]; omega)).mono ?_
  rintro e w3 ⟨v, rfl, hown, hb3⟩
  have HB3 := Lib.hid (below_trans (below_alloc (below_alloc HB2.out _) _) hb3)
  have ea : snAll [(⟨A, len, cap, xs⟩ : Sn B3), ⟨some ⟨w2.heap.size, 0, none⟩, 1, 1, [⟨x, y, z⟩]⟩] = xs ++ [⟨x, y, z⟩] := by simp [snAll]
  rw [ea] at hown
  have hown0 := hown.base_le (base' := w.heap.size) (by have := HB2.out.size; simp; omega)
  obtain ⟨A1, c1', rfl, hs1⟩ := hown0.sl encB_len
  have HS1 := Lib.hid hs1
  have HO1 := Lib.hid hown0
  have hl3 : (xs ++ [(⟨x, y, z⟩ : B3)]).length ≤ 1048578 := by rw [List.length_append, HLX.out]; simp; omega
  clear hown hb3 ea hown0 hs1 c0 c1 c2
  generalize (xs ++ [(⟨x, y, z⟩ : B3)]).length = len3 at *
  go_wp2_with fail
  refine (implBookingsValid_any A1 n len3 c1' (xs ++ [⟨x, y, z⟩]) w3 HS1.out (by omega)).mono ?_
  intro e w4 hp
  by_cases hj : BookOk n (xs ++ [⟨x, y, z⟩])
  · obtain ⟨rfl, hb4⟩ := hp.yes hj
    obtain ⟨rfl, rfl⟩ : b = true ∧ ys = xs ++ [⟨x, y, z⟩] := by
      rcases HBB.out with ⟨rfl, _, rfl⟩ | ⟨_, hJ, _⟩
      · exact ⟨rfl, rfl⟩
      · exact absurd ⟨HX.out, hj⟩ hJ
    have HB4 := Lib.hid (below_trans HB3.out hb4)
    have HO4 := Lib.hid (HO1.out.below hb4 (Nat.le_refl _))
    clear hb4 hp hj HBB
    go_wp2_with fail
    go_ret2
    exact ⟨_, rfl, HO4.out, HB4.out⟩
  · obtain ⟨rfl, hb4⟩ := hp.no hj
    obtain ⟨rfl, rfl⟩ : b = false ∧ ys = [] := by
      rcases HBB.out with ⟨_, hJ, _⟩ | ⟨rfl, _, rfl⟩
      · exact absurd hJ.2 hj
      · exact ⟨rfl, rfl⟩
    have HB4 := Lib.hid (below_trans HB3.out hb4)
    clear hb4 hp hj HBB
    go_wp2_with fail
    go_ret2
    exact ⟨_, rfl, own_new w4 _ _ HB4.out.size encB_len [] #[] rfl (by simp) rfl, below_alloc HB4.out _⟩

set_option maxRecDepth 20000 in
set_option maxHeartbeats 3200000 in
/-- SeatsBook of the reference. -/
theorem specSeatsBook_any (A : Option Addr) (n : Int) (len cap : Nat) (xs : List B3) (x y : Int) (z : Bool) (ys : List B3) (b : Bool) (w : World) (h : SlE 3 encB w A len xs) (hn : len ≤ 1048577)
    (hb : (b = true ∧ BJoinOk n xs [⟨x, y, z⟩] ∧ ys = xs ++ [⟨x, y, z⟩]) ∨ (b = false ∧ ¬ BJoinOk n xs [⟨x, y, z⟩] ∧ ys = [])) :
    Calls Tryz.prog 76 #[.int .i64 n, .slice A len cap, .agg #[.int .i64 x, .int .i64 y, .bool z]] w (RetOwnB 3 encB 34 ys b w) := by
  have H := Lib.hid h
  have HB := Lib.hid hb
  have hl1 := h.len
  have HL := Lib.hid hl1
  clear h hb hl1
  have n1 : (([] : List B3).length + len) * 24 ≤ 140737488355328 ∧ ([] : List B3).length + len ≤ maxLen := by rw [List.length_nil]; exact ⟨by omega, by unfold maxLen; omega⟩
  have n2 : (([] ++ xs).length + 1) * 24 ≤ 140737488355328 ∧ ([] ++ xs).length + 1 ≤ maxLen := by rw [List.nil_append, HL.out]; exact ⟨by omega, by unfold maxLen; omega⟩
  have N1 := Lib.hid n1
  have N2 := Lib.hid n2
  clear n1 n2
  generalize hC : Obj.cells #[.int .i64 x, .int .i64 y, .bool z] 34 = C
  have HC := Lib.hid hC
  -- the world behind the box, and what may follow it
  have b0 := below_alloc (Below.refl w.heap.size w) C
  have hz0 : w.heap.size ≤ (w.alloc C).heap.size := by simp
  have hsh : ∀ W, Below (w.heap.size + 1) (w.alloc C) W → Below w.heap.size w W := fun W hW => b0.trans (hW.mono (by omega))
  have hcl : ∀ W, Below (w.heap.size + 1) (w.alloc C) W → W.cell? ⟨w.heap.size, 0, none⟩ = some (.int .i64 x) ∧ W.cell? ⟨w.heap.size, 1, none⟩ = some (.int .i64 y) ∧ W.cell? ⟨w.heap.size, 2, none⟩ = some (.bool z) := by
    intro W hW
    have hr : ∀ j, W.cell? ⟨w.heap.size, j, none⟩ = (#[.int .i64 x, .int .i64 y, .bool z] : Array Value)[j]? := fun j => by
      rw [hW.cell (p := ⟨w.heap.size, j, none⟩) (by simp), ← HC.out]
      exact cell_of_row _ _ j _ 34 (0, 0) (heap_alloc_new w _)
    exact ⟨hr 0, hr 1, hr 2⟩
  have HSH := Lib.hid hsh
  have HCL := Lib.hid hcl
  have ow : ∀ (W : World) (g : Nat), w.heap.size + 1 ≤ W.heap.size → g = W.heap.size → OwnE 3 encB 34 (w.heap.size + 1) (W.alloc (.cells #[] 34)) (.slice (some ⟨g, 0, none⟩) 0 0) [] :=
    fun W g h1 h2 => own_new' W _ _ h1 encB_len [] #[] rfl (by simp) rfl h2
  have sn : ∀ (W : World) (g : Nat), g = W.heap.size → SlE 3 encB (W.alloc C) (some ⟨g, 0, none⟩) 1 [⟨x, y, z⟩] :=
    fun W g h2 => HC.out ▸ slE_new W _ encB_len [⟨x, y, z⟩] #[.int .i64 x, .int .i64 y, .bool z] rfl (by simp [maxLen]) rfl h2
  -- the three worlds in which the first append may run
  have z1 : (w.alloc C).heap.size = w.heap.size + 1 := by simp
  have z2 : ((w.alloc C).alloc C).heap.size = w.heap.size + 1 + 1 := by simp
  have z3 : ((w.alloc C).alloc (.cells #[] 34)).heap.size = w.heap.size + 1 + 1 := by simp
  have B0 := Lib.hid (Below.refl (w.heap.size + 1) (w.alloc C)).drew
  have Ba := Lib.hid ((Below.refl (w.heap.size + 1) (w.alloc C)).alloc (by omega) (.cells #[] 34)).drew
  have Bb := Lib.hid (((Below.refl (w.heap.size + 1) (w.alloc C)).alloc (by omega) (.cells #[] 34)).alloc (by omega) C).drew
  have Bc := Lib.hid ((Below.refl (w.heap.size + 1) (w.alloc C)).alloc (by omega) C).drew
  have Bd := Lib.hid (((Below.refl (w.heap.size + 1) (w.alloc C)).alloc (by omega) C).alloc (by omega) (.cells #[] 34)).drew
  have Oa := Lib.hid (ow (w.alloc C) (w.heap.size + 1) (by omega) z1.symm).drew
  have Ob := Lib.hid ((ow (w.alloc C) (w.heap.size + 1) (by omega) z1.symm).alloc C).drew
  have Od := Lib.hid (ow ((w.alloc C).alloc C) (w.heap.size + 1 + 1) (by omega) z2.symm).drew
  have Sb := Lib.hid (sn ((w.alloc C).alloc (.cells #[] 34)) (w.heap.size + 1 + 1) z3.symm).drew
  have Sd := Lib.hid ((sn (w.alloc C) (w.heap.size + 1) z1.symm).alloc (.cells #[] 34)).drew
  have Xa := Lib.hid (show w.heap.size + 1 ≤ ((w.alloc C).alloc (.cells #[] 34)).drew.heap.size from by simp)
  have Xb := Lib.hid (show w.heap.size + 1 ≤ (((w.alloc C).alloc (.cells #[] 34)).alloc C).drew.heap.size from by simp <;> omega)
  have Xd := Lib.hid (show w.heap.size + 1 ≤ (((w.alloc C).alloc C).alloc (.cells #[] 34)).drew.heap.size from by simp)
  have Ra := Lib.hid (show ∀ j, Value.ownBlock (.slice (some ⟨w.heap.size + 1, 0, none⟩) 0 0) = some j → w.heap.size + 1 ≤ j from fun j hj => by simp [Value.ownBlock] at hj; omega)
  have Rd := Lib.hid (show ∀ j, Value.ownBlock (.slice (some ⟨w.heap.size + 1 + 1, 0, none⟩) 0 0) = some j → w.heap.size + 1 ≤ j from fun j hj => by simp [Value.ownBlock] at hj; omega)
  have Nb := Lib.hid (show Value.ownBlock (.slice (some ⟨w.heap.size + 1, 0, none⟩) 0 0) ≠ some (w.heap.size + 1 + 1) from by simp [Value.ownBlock])
  have Nd := Lib.hid (show Value.ownBlock (.slice (some ⟨w.heap.size + 1 + 1, 0, none⟩) 0 0) ≠ some (w.heap.size + 1) from by simp [Value.ownBlock])
  have SN := Lib.hid sn
  clear ow sn z1 z2 z3 hz0 hsh hcl b0
  subst hC
  go_enter Tryz.func76, Tryz.ntmps76
  go_wp2_with fail
  go_region_held3 (fun W => W.cell? ⟨w.heap.size, 0, none⟩ = some (.int .i64 x) ∧ W.cell? ⟨w.heap.size, 1, none⟩ = some (.int .i64 y) ∧ W.cell? ⟨w.heap.size, 2, none⟩ = some (.bool z))
    (first | exact HCL.out _ B0.out | exact HCL.out _ Ba.out | exact HCL.out _ Bb.out | exact HCL.out _ Bc.out | exact HCL.out _ Bd.out | (have := B1.out; exact HCL.out _ this) | (have := B1'.out; exact HCL.out _ this) | (have := B2.out; exact HCL.out _ this) | (have := B1.out.alloc X1.out (.cells #[.int .i64 x, .int .i64 y, .bool z] 34); exact HCL.out _ this))
    (first
      | (refine step_cat (bytes := 24) (base := w.heap.size + 1) encB_len encB_one (Nat.succ_pos 2) rfl (.tmp 9) (.tmp 10) _ rfl Tryz.underlying26 info_conB rfl _ [] rfl Oa.out rfl (H.out.below (HSH.out _ Ba.out)) N1.out.1 N1.out.2 Xa.out ?_; intro v1 w1 hown1 hg1; have X1 := Lib.hid (Nat.le_trans Xa.out hg1.size); have B1 := Lib.hid (Ba.out.grown hg1 Xa.out Ra.out);  have O1 := Lib.hid hown1; clear hown1 hg1)
      | (refine step_cat (bytes := 24) (base := w.heap.size + 1) encB_len encB_one (Nat.succ_pos 2) rfl (.tmp 9) (.tmp 10) _ rfl Tryz.underlying26 info_conB rfl _ [] rfl Ob.out rfl (H.out.below (HSH.out _ Bb.out)) N1.out.1 N1.out.2 Xb.out ?_; intro v1 w1 hown1 hg1; have X1 := Lib.hid (Nat.le_trans Xb.out hg1.size); have B1 := Lib.hid (Bb.out.grown hg1 Xb.out Ra.out); have S1 := Lib.hid (Sb.out.grown hg1 Nb.out); have O1 := Lib.hid hown1; clear hown1 hg1)
      | (refine step_cat (bytes := 24) (base := w.heap.size + 1) encB_len encB_one (Nat.succ_pos 2) rfl (.tmp 9) (.tmp 10) _ rfl Tryz.underlying26 info_conB rfl _ [] rfl Od.out rfl (H.out.below (HSH.out _ Bd.out)) N1.out.1 N1.out.2 Xd.out ?_; intro v1 w1 hown1 hg1; have X1 := Lib.hid (Nat.le_trans Xd.out hg1.size); have B1 := Lib.hid (Bd.out.grown hg1 Xd.out Rd.out); have S1 := Lib.hid (Sd.out.grown hg1 Nd.out); have O1 := Lib.hid hown1; clear hown1 hg1)
      | (refine step_cat (bytes := 24) (base := w.heap.size + 1) encB_len encB_one (Nat.succ_pos 2) rfl (.tmp 11) (.tmp 13) _ rfl Tryz.underlying26 info_conB rfl _ _ rfl O1.out rfl S1.out N2.out.1 N2.out.2 X1.out ?_; intro v2 w2 hown2 hg2; have B2 := Lib.hid (B1.out.grown hg2 X1.out (fun j hj => (O1.out.lt j hj).1)); have O2 := Lib.hid hown2; clear hown2 hg2)
      | (go_loud (refine step_cat (bytes := 24) (base := w.heap.size + 1) encB_len encB_one (Nat.succ_pos 2) rfl (.tmp 11) (.tmp 13) _ rfl Tryz.underlying26 info_conB rfl _ _ rfl (O1.out.alloc _) rfl (SN.out w1 _ rfl) N2.out.1 N2.out.2 (Nat.le_trans X1.out (below_alloc (Below.refl _ w1) _).size) ?_; intro v2 w2 hown2 hg2; have B2 := Lib.hid ((B1.out.alloc X1.out _).grown hg2 (Nat.le_trans X1.out (below_alloc (Below.refl _ w1) _).size) (fun j hj => (O1.out.lt j hj).1)); have O2 := Lib.hid hown2; clear hown2 hg2)))
  all_goals
    have hown2 := O2.out.base_le (base' := w.heap.size) (Nat.le_succ _)
    have HB2 := Lib.hid (HSH.out _ B2.out)
    rw [List.nil_append] at hown2
    obtain ⟨A2, c2, rfl, hs2⟩ := hown2.sl encB_len
    have HS2 := Lib.hid hs2
    have HO2 := Lib.hid hown2
    have hl3 : (xs ++ [(⟨x, y, z⟩ : B3)]).length ≤ 1048578 := by rw [List.length_append, HL.out]; simp; omega
    have B0' := Lib.hid hn
    clear hs2 hown2 O2 HSH HCL SN
    generalize (xs ++ [(⟨x, y, z⟩ : B3)]).length = len3 at *
    by_cases hx : BookOk n xs
    · have HX := Lib.hid hx
      clear hx
      go_wp2_with fail
      refine (specBookingsValid_any A n len cap xs w2 (H.out.below HB2.out) (by omega)).mono ?_
      intro e w3 hp
      obtain ⟨rfl, hb3⟩ := hp.yes HX.out
      have HB3 := Lib.hid (below_trans HB2.out hb3)
      have HS3 := Lib.hid (HS2.out.below hb3)
      have HO3 := Lib.hid (HO2.out.below hb3 (Nat.le_refl _))
      clear hb3 hp
      by_cases hz : BookOk n (xs ++ [⟨x, y, z⟩])
      · obtain ⟨rfl, rfl⟩ : b = true ∧ ys = xs ++ [⟨x, y, z⟩] := by
          rcases HB.out with ⟨rfl, _, rfl⟩ | ⟨_, hJ, _⟩
          · exact ⟨rfl, rfl⟩
          · exact absurd ⟨HX.out, hz⟩ hJ
        have HZ := Lib.hid hz
        clear hz
        go_wp2_with fail
        refine (specBookingsValid_any A2 n len3 c2 _ w3 HS3.out (by omega)).mono ?_
        intro e w5 hp
        obtain ⟨rfl, hb5⟩ := hp.yes HZ.out
        have HB5 := Lib.hid (below_trans HB3.out hb5)
        have HO5 := Lib.hid (HO3.out.below hb5 (Nat.le_refl _))
        clear hb5 hp
        go_wp2
        go_ret2
        exact ⟨_, rfl, HO5.out, HB5.out⟩
      · obtain ⟨rfl, rfl⟩ : b = false ∧ ys = [] := by
          rcases HB.out with ⟨_, hJ, _⟩ | ⟨rfl, _, rfl⟩
          · exact absurd hJ.2 hz
          · exact ⟨rfl, rfl⟩
        have HZ := Lib.hid hz
        clear hz
        go_wp2_with fail
        refine (specBookingsValid_any A2 n len3 c2 _ w3 HS3.out (by omega)).mono ?_
        intro e w5 hp
        obtain ⟨rfl, hb5⟩ := hp.no HZ.out
        have HB5 := Lib.hid (below_trans HB3.out hb5)
        clear hb5 hp
        go_wp2
        go_ret2
        exact ⟨_, rfl, own_new w5 _ _ HB5.out.size encB_len [] #[] rfl (by simp) rfl, below_alloc HB5.out _⟩
    · obtain ⟨rfl, rfl⟩ : b = false ∧ ys = [] := by
        rcases HB.out with ⟨_, hJ, _⟩ | ⟨rfl, _, rfl⟩
        · exact absurd hJ.1 hx
        · exact ⟨rfl, rfl⟩
      go_wp2_with fail
      refine (specBookingsValid_any A n len cap xs w2 (H.out.below HB2.out) (by omega)).mono ?_
      intro e w3 hp
      obtain ⟨rfl, hb3⟩ := hp.no hx
      have HB3 := Lib.hid (below_trans HB2.out hb3)
      clear hb3 hp
      go_wp2
      go_ret2
      exact ⟨_, rfl, own_new w3 _ _ HB3.out.size encB_len [] #[] rfl (by simp) rfl, below_alloc HB3.out _⟩
end Go.Proofs.YtgjllminidlolaaGreatDoor
/- Contracts: the seats of a coach: seats, free, take, seatsOf. -/
set_option linter.unusedVariables false
namespace Go.Proofs.YtgjllminidlolaaGreatDoor
open Go.RowKit

def baseOf (k : Bool) : Nat := if k = true then 0 else 4
/-- Block g holds the seats of a coach: for each kind and seat, a set of legs. -/
def CoachAt (w : World) (g : Nat) (S : Bool → Nat → Nat) : Prop :=
  g < w.heap.size ∧ (∀ j, w.frozen? ⟨g, j, none⟩ = false) ∧ ∀ (k : Bool) (s : Nat), s < capOf k → w.cell? ⟨g, baseOf k + s, none⟩ = some (.int .u64 (S k s)) ∧ S k s < 1024
theorem CoachAt.below {w w' : World} {g : Nat} {S : Bool → Nat → Nat} (h : CoachAt w g S) (hb : Below w.heap.size w w') : CoachAt w' g S :=
  ⟨Nat.lt_of_lt_of_le h.1 hb.size, fun j => (hb.frozen (p := ⟨g, j, none⟩) h.1).trans (h.2.1 j), fun k s hs => ⟨(hb.cell (p := ⟨g, _, none⟩) h.1).trans (h.2.2 k s hs).1, (h.2.2 k s hs).2⟩⟩

section
variable {P : Program} {fs : Array Field}
/-- 'x.(T)' with ok, T a struct: x holds a T. -/
theorem run_assert_yes (t xT : TypeId) (v : Value) (h : P.underlying t = some (.struct fs)) (w : World) : (Instr.typeAssert (.iface t v) xT t true).run P w = .ok (.tuple #[v, .bool true]) w := by
  simp [Instr.typeAssert, run_underlying h, go_sem, Result.andThen]
/-- The same, where x holds another type. -/
theorem run_assert_no (t a xT : TypeId) (v z : Value) (h : P.underlying a = some (.struct fs)) (hne : t ≠ a) (hz : (P.info? a).map (·.zero) = some (some z)) (w : World) :
    (Instr.typeAssert (.iface t v) xT a true).run P w = .ok (.tuple #[z, .bool false]) w := by
  obtain ⟨j, hj, hz'⟩ := Option.map_eq_some_iff.1 hz
  simp [Instr.typeAssert, run_underlying h, hne, zeroValue, typeInfo, hj, hz', go_sem, Result.andThen]
end
theorem asIn (v : Value) (w : World) : (Instr.typeAssert (.iface 137 v) 80 137 true).run Tryz.prog w = .ok (.tuple #[v, .bool true]) w := run_assert_yes _ _ _ Tryz.underlying137 w
theorem asOut (v : Value) (w : World) : (Instr.typeAssert (.iface 138 v) 80 138 true).run Tryz.prog w = .ok (.tuple #[v, .bool true]) w := run_assert_yes _ _ _ Tryz.underlying138 w
theorem asNot (v : Value) (w : World) : (Instr.typeAssert (.iface 138 v) 80 137 true).run Tryz.prog w = .ok (.tuple #[.agg #[.int .u64 0], .bool false]) w :=
  run_assert_no _ _ _ _ _ Tryz.underlying137 (by decide) (by kernel_rfl) w
attribute [local go_sem] asIn asOut asNot

theorem or_nat (a b : Nat) (ha : a < 1024) (hb : b < 1024) : bits .or .u64 (a : Int) (b : Int) = ((a ||| b : Nat) : Int) := by
  have e : bits .or .u64 (a : Int) (b : Int) = IntKind.u64.wrap (((BitVec.ofInt 64 (a : Int)) ||| (BitVec.ofInt 64 (b : Int))).toNat : Int) := rfl
  rw [e]
  have e2 : ((BitVec.ofInt 64 (a : Int)) ||| (BitVec.ofInt 64 (b : Int))).toNat = a ||| b := by
    rw [BitVec.toNat_or, BitVec.ofInt_natCast, BitVec.ofInt_natCast, BitVec.toNat_ofNat, BitVec.toNat_ofNat, Nat.mod_eq_of_lt (by omega), Nat.mod_eq_of_lt (by omega)]
  rw [e2]
  have hlt : a ||| b < 2 ^ 10 := Nat.or_lt_two_pow ha hb
  have e3 : IntKind.u64.wrap ((a ||| b : Nat) : Int) = ((a ||| b : Nat) : Int) % 18446744073709551616 := by simp [IntKind.wrap, IntKind.bits, IntKind.signed]
  rw [e3]
  omega
set_option maxRecDepth 20000 in
set_option maxHeartbeats 800000 in
theorem with_any (a b : Nat) (w : World) (ha : a < 1024) (hb : b < 1024) :
    Calls Tryz.prog 84 #[.int .u64 a, .int .u64 b] w (Same (.int .u64 ((a ||| b : Nat) : Int)) w) := by
  have e := or_nat a b ha hb
  go_enter Tryz.func84, Tryz.ntmps84
  go_wp2
  go_ret
  exact ⟨rfl, rfl⟩

/-- The seat s of the kind k taken on the legs l too. -/
def takeS (S : Bool → Nat → Nat) (k : Bool) (s l : Nat) : Bool → Nat → Nat := fun k' s' => if k' = k ∧ s' = s then S k s ||| l else S k' s'
/-- How a call that takes a seat ends. -/
def TookW (w : World) (g : Nat) (S : Bool → Nat → Nat) (w' : World) : Prop := CoachAt w' g S ∧ w.grownBy w' (some g)
def Took (w : World) (g : Nat) (S : Bool → Nat → Nat) (e : Ending) (w' : World) : Prop := e = .returned (.tuple #[]) ∧ TookW w g S w'
theorem coach_take {w W : World} {g : Nat} {S : Bool → Nat → Nat} (h : CoachAt w g S) (hb : Below w.heap.size w W) (k : Bool) (s l : Nat) (hs : s < capOf k) (hl : l < 1024) :
    TookW w g (takeS S k s l) (W.setCell ⟨g, baseOf k + s, none⟩ (.int .u64 ((S k s ||| l : Nat) : Int))) := by
  have h' := h.below hb
  refine ⟨⟨by simpa using h'.1, fun j => by rw [World.frozen?_setCell]; exact h'.2.1 j, fun k' s' hs' => ?_⟩, hb.os, hb.tape, hb.output, by simpa using hb.size, fun j hj hne => ?_⟩
  · by_cases e : k' = k ∧ s' = s
    · obtain ⟨rfl, rfl⟩ := e
      refine ⟨?_, ?_⟩
      · have := World.cell?_setCell_same (w := W) (a := ⟨g, baseOf k' + s', none⟩) (v := .int .u64 ((S k' s' ||| l : Nat) : Int)) (h'.2.2 k' s' hs').1
        simpa [takeS] using this
      · simp only [takeS, and_self, if_true]
        exact Nat.or_lt_two_pow (n := 10) (h'.2.2 k' s' hs').2 hl
    · have hne : baseOf k + s ≠ baseOf k' + s' := by
        intro hh
        apply e
        cases k <;> cases k' <;> simp [baseOf, capOf] at * <;> omega
      have := World.cell?_setCell_other (w := W) (a := ⟨g, baseOf k + s, none⟩) (b := ⟨g, baseOf k' + s', none⟩) (v := .int .u64 ((S k s ||| l : Nat) : Int)) (by intro hh; injection hh with h1 h2; exact hne h2)
      simp only [takeS, if_neg e]
      exact ⟨this.trans (h'.2.2 k' s' hs').1, (h'.2.2 k' s' hs').2⟩
  · exact (Below.heap_setCell W _ _ j (fun e => hne (by rw [e]))).trans (hb.block j hj)

def tickIn (v : Int) : Value := .iface 137 (.agg #[.int .u64 v])
set_option maxRecDepth 20000 in
set_option maxHeartbeats 800000 in
theorem seatsIn_any (g : Nat) (v : Int) (w : World) :
    Calls Tryz.prog 82 #[.pointer (some ⟨g, 0, none⟩), .iface 137 (.agg #[.int .u64 v])] w (Same (.slice (some ⟨g, 0, none⟩) 4 4) w) := by
  go_enter Tryz.func82, Tryz.ntmps82
  go_wp2
  go_ret
  exact ⟨rfl, rfl⟩
set_option maxRecDepth 20000 in
set_option maxHeartbeats 800000 in
theorem seatsOfIn_any (v : Int) (w : World) :
    Calls Tryz.prog 45 #[.iface 137 (.agg #[.int .u64 v])] w (Same (.int .i64 4) w) := by
  go_enter Tryz.func45, Tryz.ntmps45
  go_wp2
  go_ret
  exact ⟨rfl, rfl⟩
set_option maxRecDepth 20000 in
set_option maxHeartbeats 3200000 in
theorem freeIn_any (g f t : Nat) (o : Int) (S : Bool → Nat → Nat) (w : World) (h : CoachAt w g S) (hf : f ≤ t) (ht : t ≤ 7) :
    Calls Tryz.prog 46 #[.pointer (some ⟨g, 0, none⟩), .iface 137 (.agg #[.int .u64 (legs f t)]), .int .i64 o] w (OnlyB ((0 ≤ o ∧ o < 4) ∧ S true o.toNat &&& legs f t = 0) w) := by
  have H := Lib.hid h
  clear h
  by_cases h0 : 0 ≤ o
  rotate_left
  · have d0 : decide (0 ≤ o) = false := by simpa using h0
    have HN := Lib.hid h0
    clear h0
    go_enter Tryz.func46, Tryz.ntmps46
    go_wp2_with fail
    refine (seatsIn_any g _ w).mono ?_
    rintro e w2 ⟨rfl, rfl⟩
    go_wp2_with fail
    go_quiet (fail)
    go_wp2_with fail
    go_ret
    exact onlyB_false (fun hh => by have := HN.out; omega) (bl_drewN (Below.refl _ _) _)
  by_cases h1 : o < 4
  rotate_left
  · have d0 : decide (o < 4) = false := by simpa using h1
    have HN := Lib.hid h1
    clear h1
    go_enter Tryz.func46, Tryz.ntmps46
    go_wp2_with fail
    refine (seatsIn_any g _ w).mono ?_
    rintro e w2 ⟨rfl, rfl⟩
    go_wp2_with fail
    go_quiet (fail)
    go_wp2_with fail
    go_ret
    exact onlyB_false (fun hh => by have := HN.out; omega) (bl_drewN (Below.refl _ _) _)
  obtain ⟨s, rfl⟩ : ∃ s : Nat, o = s := ⟨o.toNat, by omega⟩
  obtain ⟨hc, hS⟩ := H.out.2.2 true s (by simp [capOf]; omega)
  have HC := Lib.hid (fun (W : World) (hW : Below w.heap.size w W) => ((H.out.below hW).2.2 true s (by simp [capOf]; omega)).1)
  have HL := Lib.hid (legs_lt f t ht)
  have HK := Lib.hid hS
  have e0 : ((s : Int).toNat) = s := rfl
  rw [e0]
  simp only [baseOf, if_true, Nat.zero_add] at hc HC
  clear hS e0 hf ht
  generalize S true s = q at *
  generalize legs f t = l at *
  have i0 : (0 : Int) ≤ (s : Int) := by omega
  have hr : (0 ≤ (s : Int) ∧ (s : Int) < 4) := ⟨h0, h1⟩
  have HR := Lib.hid hr
  clear hr
  have HBd := Lib.hid (below_drew (Below.refl w.heap.size w))
  by_cases hm : q &&& l = 0
  · have HM := Lib.hid (show ¬ (q &&& l ≠ 0) from fun h => h hm)
    have HM2 := Lib.hid hm
    clear hm H
    go_enter Tryz.func46, Tryz.ntmps46
    go_wp2_with fail
    refine (seatsIn_any g _ w).mono ?_
    rintro e w2 ⟨rfl, rfl⟩
    go_wp2_with fail
    go_region_held3 (fun w' => w'.cell? ⟨g, s, none⟩ = some (.int .u64 (q : Int))) (first | exact hc | exact HC3.out | go_keep)
      (first | (go_at_call 246; refine (inLegs_any _ _).mono ?_; rintro e w3 ⟨rfl, hb3⟩; have HB3 := Lib.hid (below_trans HBd.out hb3); have HC3 := Lib.hid (HC.out _ HB3.out); clear hb3) | (go_at_call 83; (with_reducible_and_instances refine (meets_any q l _ HK.out HL.out).mono ?_); intro e w4 hp; obtain ⟨rfl, rfl⟩ := hp.no HM.out; clear hp) | fail)
    go_wp2_with fail
    go_ret
    exact onlyB_true ⟨HR.out, HM2.out⟩ HB3.out
  · have HM := Lib.hid (show q &&& l ≠ 0 from hm)
    clear hm H
    go_enter Tryz.func46, Tryz.ntmps46
    go_wp2_with fail
    refine (seatsIn_any g _ w).mono ?_
    rintro e w2 ⟨rfl, rfl⟩
    go_wp2_with fail
    go_region_held3 (fun w' => w'.cell? ⟨g, s, none⟩ = some (.int .u64 (q : Int))) (first | exact hc | exact HC3.out | go_keep)
      (first | (go_at_call 246; refine (inLegs_any _ _).mono ?_; rintro e w3 ⟨rfl, hb3⟩; have HB3 := Lib.hid (below_trans HBd.out hb3); have HC3 := Lib.hid (HC.out _ HB3.out); clear hb3) | (go_at_call 83; (with_reducible_and_instances refine (meets_any q l _ HK.out HL.out).mono ?_); intro e w4 hp; obtain ⟨rfl, rfl⟩ := hp.yes HM.out; clear hp) | fail)
    go_wp2_with fail
    go_ret
    exact onlyB_false (fun hh => HM.out hh.2) HB3.out

set_option maxRecDepth 20000 in
set_option maxHeartbeats 3200000 in
theorem takeIn_any (g f t s : Nat) (S : Bool → Nat → Nat) (w : World) (h : CoachAt w g S) (hf : f ≤ t) (ht : t ≤ 7) (hs : s < 4) :
    Calls Tryz.prog 47 #[.pointer (some ⟨g, 0, none⟩), .iface 137 (.agg #[.int .u64 (legs f t)]), .int .i64 s] w (Took w g (takeS S true s (legs f t))) := by
  obtain ⟨hc, hS⟩ := h.2.2 true s (by simp [capOf]; omega)
  have HC := Lib.hid (fun (W : World) (hW : Below w.heap.size w W) => ((h.below hW).2.2 true s (by simp [capOf]; omega)).1)
  have HF := Lib.hid (fun (W : World) (hW : Below w.heap.size w W) => (h.below hW).2.1 (s))
  have HL := Lib.hid (legs_lt f t ht)
  have HK := Lib.hid hS
  have HT := Lib.hid (fun (W : World) (hW : Below w.heap.size w W) => coach_take h hW true s (legs f t) (by simp [capOf]; omega) HL.out)
  simp only [baseOf, if_true, Nat.zero_add] at hc HC HT
  clear hS hf ht h
  generalize takeS S true s (legs f t) = S' at *
  generalize S true s = q at *
  generalize legs f t = l at *
  have i0 : (0 : Int) ≤ (s : Int) := by omega
  have i1 : (s : Int) < 4 := by omega
  have HBd := Lib.hid (below_drew (Below.refl w.heap.size w))
  go_enter Tryz.func47, Tryz.ntmps47
  go_wp2_with fail
  refine (seatsIn_any g _ w).mono ?_
  rintro e w2 ⟨rfl, rfl⟩
  go_wp2_with fail
  go_region_with (first | (go_at_call 246; refine (inLegs_any _ _).mono ?_; rintro e w3 ⟨rfl, hb3⟩; have HB3 := Lib.hid (below_trans HBd.out hb3); have hc3 := HC.out _ HB3.out; have hf3 := HF.out _ HB3.out; clear hb3) | (go_at_call 84; (with_reducible_and_instances refine (with_any q l _ HK.out HL.out).mono ?_); rintro e w4 ⟨rfl, rfl⟩) | fail)
  all_goals
    go_wp2_with fail
    go_end0
    exact ⟨rfl, HT.out _ HB3.out⟩

def tickOut (v : Int) : Value := .iface 138 (.agg #[.int .u64 v])
set_option maxRecDepth 20000 in
set_option maxHeartbeats 800000 in
theorem seatsOut_any (g : Nat) (v : Int) (w : World) :
    Calls Tryz.prog 82 #[.pointer (some ⟨g, 0, none⟩), .iface 138 (.agg #[.int .u64 v])] w (Same (.slice (some ⟨g, 4, none⟩) 6 6) w) := by
  go_enter Tryz.func82, Tryz.ntmps82
  go_wp2
  go_ret
  exact ⟨rfl, rfl⟩
set_option maxRecDepth 20000 in
set_option maxHeartbeats 800000 in
theorem seatsOfOut_any (v : Int) (w : World) :
    Calls Tryz.prog 45 #[.iface 138 (.agg #[.int .u64 v])] w (Same (.int .i64 6) w) := by
  go_enter Tryz.func45, Tryz.ntmps45
  go_wp2
  go_ret
  exact ⟨rfl, rfl⟩
set_option maxRecDepth 20000 in
set_option maxHeartbeats 3200000 in
theorem freeOut_any (g f t : Nat) (o : Int) (S : Bool → Nat → Nat) (w : World) (h : CoachAt w g S) (hf : f ≤ t) (ht : t ≤ 7) :
    Calls Tryz.prog 46 #[.pointer (some ⟨g, 0, none⟩), .iface 138 (.agg #[.int .u64 (legs f t)]), .int .i64 o] w (OnlyB ((0 ≤ o ∧ o < 6) ∧ S false o.toNat &&& legs f t = 0) w) := by
  have H := Lib.hid h
  clear h
  by_cases h0 : 0 ≤ o
  rotate_left
  · have d0 : decide (0 ≤ o) = false := by simpa using h0
    have HN := Lib.hid h0
    clear h0
    go_enter Tryz.func46, Tryz.ntmps46
    go_wp2_with fail
    refine (seatsOut_any g _ w).mono ?_
    rintro e w2 ⟨rfl, rfl⟩
    go_wp2_with fail
    go_quiet (fail)
    go_wp2_with fail
    go_ret
    exact onlyB_false (fun hh => by have := HN.out; omega) (bl_drewN (Below.refl _ _) _)
  by_cases h1 : o < 6
  rotate_left
  · have d0 : decide (o < 6) = false := by simpa using h1
    have HN := Lib.hid h1
    clear h1
    go_enter Tryz.func46, Tryz.ntmps46
    go_wp2_with fail
    refine (seatsOut_any g _ w).mono ?_
    rintro e w2 ⟨rfl, rfl⟩
    go_wp2_with fail
    go_quiet (fail)
    go_wp2_with fail
    go_ret
    exact onlyB_false (fun hh => by have := HN.out; omega) (bl_drewN (Below.refl _ _) _)
  obtain ⟨s, rfl⟩ : ∃ s : Nat, o = s := ⟨o.toNat, by omega⟩
  obtain ⟨hc, hS⟩ := H.out.2.2 false s (by simp [capOf]; omega)
  have HC := Lib.hid (fun (W : World) (hW : Below w.heap.size w W) => ((H.out.below hW).2.2 false s (by simp [capOf]; omega)).1)
  have HL := Lib.hid (legs_lt f t ht)
  have HK := Lib.hid hS
  have e0 : ((s : Int).toNat) = s := rfl
  rw [e0]
  simp only [baseOf, Bool.false_eq_true, if_false] at hc HC
  clear hS e0 hf ht
  generalize S false s = q at *
  generalize legs f t = l at *
  have i0 : (0 : Int) ≤ (s : Int) := by omega
  have hr : (0 ≤ (s : Int) ∧ (s : Int) < 6) := ⟨h0, h1⟩
  have HR := Lib.hid hr
  clear hr
  have HBd := Lib.hid (below_drew (Below.refl w.heap.size w))
  by_cases hm : q &&& l = 0
  · have HM := Lib.hid (show ¬ (q &&& l ≠ 0) from fun h => h hm)
    have HM2 := Lib.hid hm
    clear hm H
    go_enter Tryz.func46, Tryz.ntmps46
    go_wp2_with fail
    refine (seatsOut_any g _ w).mono ?_
    rintro e w2 ⟨rfl, rfl⟩
    go_wp2_with fail
    go_region_held3 (fun w' => w'.cell? ⟨g, 4 + s, none⟩ = some (.int .u64 (q : Int))) (first | exact hc | exact HC3.out | go_keep)
      (first | (go_at_call 247; refine (outLegs_any _ _).mono ?_; rintro e w3 ⟨rfl, hb3⟩; have HB3 := Lib.hid (below_trans HBd.out hb3); have HC3 := Lib.hid (HC.out _ HB3.out); clear hb3) | (go_at_call 83; (with_reducible_and_instances refine (meets_any q l _ HK.out HL.out).mono ?_); intro e w4 hp; obtain ⟨rfl, rfl⟩ := hp.no HM.out; clear hp) | fail)
    go_wp2_with fail
    go_ret
    exact onlyB_true ⟨HR.out, HM2.out⟩ HB3.out
  · have HM := Lib.hid (show q &&& l ≠ 0 from hm)
    clear hm H
    go_enter Tryz.func46, Tryz.ntmps46
    go_wp2_with fail
    refine (seatsOut_any g _ w).mono ?_
    rintro e w2 ⟨rfl, rfl⟩
    go_wp2_with fail
    go_region_held3 (fun w' => w'.cell? ⟨g, 4 + s, none⟩ = some (.int .u64 (q : Int))) (first | exact hc | exact HC3.out | go_keep)
      (first | (go_at_call 247; refine (outLegs_any _ _).mono ?_; rintro e w3 ⟨rfl, hb3⟩; have HB3 := Lib.hid (below_trans HBd.out hb3); have HC3 := Lib.hid (HC.out _ HB3.out); clear hb3) | (go_at_call 83; (with_reducible_and_instances refine (meets_any q l _ HK.out HL.out).mono ?_); intro e w4 hp; obtain ⟨rfl, rfl⟩ := hp.yes HM.out; clear hp) | fail)
    go_wp2_with fail
    go_ret
    exact onlyB_false (fun hh => HM.out hh.2) HB3.out

set_option maxRecDepth 20000 in
set_option maxHeartbeats 3200000 in
theorem takeOut_any (g f t s : Nat) (S : Bool → Nat → Nat) (w : World) (h : CoachAt w g S) (hf : f ≤ t) (ht : t ≤ 7) (hs : s < 6) :
    Calls Tryz.prog 47 #[.pointer (some ⟨g, 0, none⟩), .iface 138 (.agg #[.int .u64 (legs f t)]), .int .i64 s] w (Took w g (takeS S false s (legs f t))) := by
  obtain ⟨hc, hS⟩ := h.2.2 false s (by simp [capOf]; omega)
  have HC := Lib.hid (fun (W : World) (hW : Below w.heap.size w W) => ((h.below hW).2.2 false s (by simp [capOf]; omega)).1)
  have HF := Lib.hid (fun (W : World) (hW : Below w.heap.size w W) => (h.below hW).2.1 (4 + s))
  have HL := Lib.hid (legs_lt f t ht)
  have HK := Lib.hid hS
  have HT := Lib.hid (fun (W : World) (hW : Below w.heap.size w W) => coach_take h hW false s (legs f t) (by simp [capOf]; omega) HL.out)
  simp only [baseOf, Bool.false_eq_true, if_false] at hc HC HT
  clear hS hf ht h
  generalize takeS S false s (legs f t) = S' at *
  generalize S false s = q at *
  generalize legs f t = l at *
  have i0 : (0 : Int) ≤ (s : Int) := by omega
  have i1 : (s : Int) < 6 := by omega
  have HBd := Lib.hid (below_drew (Below.refl w.heap.size w))
  go_enter Tryz.func47, Tryz.ntmps47
  go_wp2_with fail
  refine (seatsOut_any g _ w).mono ?_
  rintro e w2 ⟨rfl, rfl⟩
  go_wp2_with fail
  go_region_with (first | (go_at_call 247; refine (outLegs_any _ _).mono ?_; rintro e w3 ⟨rfl, hb3⟩; have HB3 := Lib.hid (below_trans HBd.out hb3); have hc3 := HC.out _ HB3.out; have hf3 := HF.out _ HB3.out; clear hb3) | (go_at_call 84; (with_reducible_and_instances refine (with_any q l _ HK.out HL.out).mono ?_); rintro e w4 ⟨rfl, rfl⟩) | fail)
  all_goals
    go_wp2_with fail
    go_end0
    exact ⟨rfl, HT.out _ HB3.out⟩
end Go.Proofs.YtgjllminidlolaaGreatDoor
/- Contracts: SeatingValid of the program. -/
set_option linter.unusedVariables false
namespace Go.Proofs.YtgjllminidlolaaGreatDoor
open Go.RowKit

theorem free_any (g f t : Nat) (k : Bool) (o : Int) (S : Bool → Nat → Nat) (w : World) (h : CoachAt w g S) (hf : f ≤ t) (ht : t ≤ 7) :
    Calls Tryz.prog 46 #[.pointer (some ⟨g, 0, none⟩), tick f t k, .int .i64 o] w (OnlyB ((0 ≤ o ∧ o < capOf k) ∧ S k o.toNat &&& legs f t = 0) w) := by
  cases k
  · exact freeOut_any g f t o S w h hf ht
  · exact freeIn_any g f t o S w h hf ht
theorem take_any (g f t s : Nat) (k : Bool) (S : Bool → Nat → Nat) (w : World) (h : CoachAt w g S) (hf : f ≤ t) (ht : t ≤ 7) (hs : s < capOf k) :
    Calls Tryz.prog 47 #[.pointer (some ⟨g, 0, none⟩), tick f t k, .int .i64 s] w (Took w g (takeS S k s (legs f t))) := by
  cases k
  · exact takeOut_any g f t s S w h hf ht hs
  · exact takeIn_any g f t s S w h hf ht hs
theorem seatsOf_any (f t : Nat) (k : Bool) (w : World) : Calls Tryz.prog 45 #[tick f t k] w (Same (.int .i64 (capOf k)) w) := by
  cases k
  · exact seatsOfOut_any _ w
  · exact seatsOfIn_any _ w
/-- The coach where the bookings ahead of j have their seats. -/
def occS (xs : List B3) (ys : List Int) : Bool → Nat → Nat := fun k s => occ xs ys k s
theorem occS_next {xs : List B3} {ys : List Int} {j : Nat} {p : B3} {o : Nat} (hx : xs[j]? = some p) (ho : ys[j]? = some (o : Int)) :
    takeS (occS (xs.take j) (ys.take j)) p.c o (legs p.a.toNat p.b.toNat) = occS (xs.take (j + 1)) (ys.take (j + 1)) := by
  funext k s
  simp only [takeS, occS, occ_next hx ho]
  by_cases e : k = p.c ∧ s = o
  · obtain ⟨rfl, rfl⟩ := e
    rw [if_pos ⟨rfl, rfl⟩, if_pos ⟨rfl, rfl⟩]
  · rw [if_neg e, if_neg (fun h => e ⟨h.1.symm, by omega⟩), Nat.or_zero]
theorem seat_free {xs : List B3} {ys : List Int} {j : Nat} {p : B3} {o : Int} (hall : ∀ q ∈ xs, OkB 7 q) (hp : OkB 7 p) (h0 : 0 ≤ o) : (occS (xs.take j) (ys.take j) p.c o.toNat &&& legs p.a.toNat p.b.toNat = 0) ↔ blk (xs.take j) (ys.take j) p o = false := by
  have h := occ_blk (xs.take j) (ys.take j) p o (fun q hq => hall q (List.mem_of_mem_take hq)) hp
  unfold occS
  rw [Int.toNat_of_nonneg h0]
  cases hb : blk (xs.take j) (ys.take j) p o with
  | false => rw [hb] at h; simp at h; simp [h]
  | true => rw [hb] at h; simp at h; simp [h]
theorem seat_not_free {xs : List B3} {ys : List Int} {j : Nat} {p : B3} {o : Int} (hx : xs[j]? = some p) (ho : ys[j]? = some o) (hall : ∀ q ∈ xs, OkB 7 q)
    (h : ¬ ((0 ≤ o ∧ o < capOf p.c) ∧ occS (xs.take j) (ys.take j) p.c o.toNat &&& legs p.a.toNat p.b.toNat = 0)) : ¬ SeatOk xs ys := by
  by_cases hr : 0 ≤ o ∧ o < capOf p.c
  · refine seat_not_blk hx ho ?_
    cases hb : blk (xs.take j) (ys.take j) p o with
    | true => rfl
    | false => exact absurd ⟨hr, (seat_free hall (hall p (mem_at hx)) hr.1).2 hb⟩ h
  · exact seat_not_range hx ho hr
theorem coach_zero (w : World) (T : TypeId) : CoachAt (w.alloc (.cells #[.int .u64 0, .int .u64 0, .int .u64 0, .int .u64 0, .int .u64 0, .int .u64 0, .int .u64 0, .int .u64 0, .int .u64 0, .int .u64 0] T)) w.heap.size (occS [] []) := by
  have hz := heap_alloc_new w (.cells #[.int .u64 0, .int .u64 0, .int .u64 0, .int .u64 0, .int .u64 0, .int .u64 0, .int .u64 0, .int .u64 0, .int .u64 0, .int .u64 0] T)
  refine ⟨by simp, fun j => frozen_of_row _ _ j _ _ hz, fun k s hs => ⟨?_, by simp [occS, occ]⟩⟩
  rw [cell_of_row _ _ _ _ _ _ hz]
  cases k
  · simp only [capOf, Bool.false_eq_true, if_false] at hs
    rcases (by omega : s = 0 ∨ s = 1 ∨ s = 2 ∨ s = 3 ∨ s = 4 ∨ s = 5) with rfl | rfl | rfl | rfl | rfl | rfl <;> rfl
  · simp only [capOf, if_true] at hs
    rcases (by omega : s = 0 ∨ s = 1 ∨ s = 2 ∨ s = 3) with rfl | rfl | rfl | rfl <;> rfl
theorem below_own {w W W' : World} {g : Nat} (hb : Below w.heap.size w W) (hg : W.grownBy W' (some g)) (h : w.heap.size ≤ g) : Below w.heap.size w W' :=
  hb.grown hg hb.size (fun j hj => by injection hj with hj; omega)

end Go.Proofs.YtgjllminidlolaaGreatDoor
/- Contracts: SeatingValid of the reference. -/
set_option linter.unusedVariables false
namespace Go.Proofs.YtgjllminidlolaaGreatDoor
open Go.RowKit

theorem cellB_of {w wr : World} {b off n : Nat} {xs : List B3} (h : SlE 3 encB w (some ⟨b, off, none⟩) n xs) (hb : Below w.heap.size w wr) {j : Nat} {x y : Int} {z : Bool} (hx : xs[j]? = some ⟨x, y, z⟩) :
    wr.cell? ⟨b, off + j * 3, none⟩ = some (.int .i64 x) ∧ wr.cell? ⟨b, off + j * 3 + 1, none⟩ = some (.int .i64 y) ∧ wr.cell? ⟨b, off + j * 3 + 2, none⟩ = some (.bool z) := by
  have hj : j < n := by rw [← h.len]; exact (List.getElem?_eq_some_iff.1 hx).1
  obtain ⟨b', off', x1, y1, z1, hA, -, hx1, -, g0, g1, g2⟩ := atB h hb hj
  injection hA with hA
  injection hA with e1 e2
  subst e1 e2
  rw [hx] at hx1
  injection hx1 with hx1
  injection hx1 with e1 e2 e3
  subst e1 e2 e3
  exact ⟨g0, g1, g2⟩
theorem cell1_of {w wr : World} {b off n : Nat} {xs : List Int} (h : SlE 1 encI w (some ⟨b, off, none⟩) n xs) (hb : Below w.heap.size w wr) {j : Nat} {x : Int} (hx : xs[j]? = some x) : wr.cell? ⟨b, off + j, none⟩ = some (.int .i64 x) := by
  have hj : j < n := by rw [← h.len]; exact (List.getElem?_eq_some_iff.1 hx).1
  obtain ⟨b', off', x1, hA, -, hx1, -, g0⟩ := at1 h hb hj
  injection hA with hA
  injection hA with e1 e2
  subst e1 e2
  rw [hx] at hx1
  injection hx1 with hx1
  subst hx1
  exact g0

set_option maxRecDepth 20000 in
set_option maxHeartbeats 1600000 in
theorem l4Meet_any (p q : B3) (w : World) :
    Calls Tryz.prog 86 #[.agg #[.int .i64 p.a, .int .i64 p.b, .bool p.c], .agg #[.int .i64 q.a, .int .i64 q.b, .bool q.c]] w (OnlyB (meetB p q) w) := by
  obtain ⟨a, b, c⟩ := p
  obtain ⟨a', b', c'⟩ := q
  have HB := Lib.hid (below_alloc (below_alloc (Below.refl w.heap.size w) (.cells #[.int .i64 a, .int .i64 b, .bool c] 34)) (.cells #[.int .i64 a', .int .i64 b', .bool c'] 34))
  dsimp only
  by_cases hk : c = c'
  · subst hk
    by_cases h1 : a < b'
    · by_cases h2 : a' < b
      · go_enter Tryz.func86, Tryz.ntmps86
        go_wp2_with fail
        go_ret
        exact onlyB_true ⟨rfl, h1, h2⟩ HB.out
      · have d2 : decide (a' < b) = false := by simpa using h2
        have HN := Lib.hid h2
        clear h2
        go_enter Tryz.func86, Tryz.ntmps86
        go_wp2_with fail
        go_ret
        exact onlyB_false (fun hh => by have := HN.out; have := hh.2.2; dsimp only at this; omega) HB.out
    · have d1 : decide (a < b') = false := by simpa using h1
      have HN := Lib.hid h1
      clear h1
      go_enter Tryz.func86, Tryz.ntmps86
      go_wp2_with fail
      go_ret
      exact onlyB_false (fun hh => by have := HN.out; have := hh.2.1; dsimp only at this; omega) HB.out
  · have d0 : (c == c') = false := by simpa using hk
    have HN := Lib.hid (show ¬ meetB ⟨a, b, c⟩ ⟨a', b', c'⟩ from fun hh => hk hh.1)
    clear hk
    go_enter Tryz.func86, Tryz.ntmps86
    go_wp2_with fail
    go_ret
    exact onlyB_false HN.out HB.out

end Go.Proofs.YtgjllminidlolaaGreatDoor
/- Small facts on a slice of ints that a call makes. -/
set_option linter.unusedVariables false
namespace Go.Proofs.YtgjllminidlolaaGreatDoor
open Go.RowKit
theorem info_intN : (Tryz.prog.info? 3).map (fun i => (i.zero, i.size, i.bytes)) = some (some (.int .i64 0), 1, 8) := by kernel_rfl
theorem made1 (n : Nat) : (madeCells #[.int .i64 0] n).toList = (List.replicate n (0 : Int)).flatMap encI := by
  apply List.ext_getElem?
  intro j
  by_cases hj : j < n
  · have h3 := flat_at encI_len (List.replicate n (0 : Int)) j 0 (by rw [List.getElem?_replicate, if_pos hj]) 0 (.int .i64 0) rfl
    rw [Nat.mul_one, Nat.add_zero] at h3
    rw [h3]
    have h4 : (madeCells #[.int .i64 0] n)[j]? = some (.int .i64 0) := by simp [madeCells, hj, Nat.mod_one]
    simpa using h4
  · have h1 : (madeCells #[.int .i64 0] n).toList.length = n := by simp [madeCells]
    rw [List.getElem?_eq_none (by rw [h1]; omega), List.getElem?_eq_none (by rw [flat_len encI_len, List.length_replicate]; omega)]
end Go.Proofs.YtgjllminidlolaaGreatDoor
/- Contracts: SeatingMake of the program. -/
set_option linter.unusedVariables false
namespace Go.Proofs.YtgjllminidlolaaGreatDoor
open Go.RowKit

def zmax (o : Int) : Int := max o 0
theorem zmax_of {o : Int} (h : 0 ≤ o) : zmax o = o := by unfold zmax; omega
/-- A seating under way: the seats of the program (0 where none is given yet), and the coach. -/
def MakeAt (w : World) (g h len : Nat) (xs : List B3) (out : List Int) (W : World) : Prop :=
  OwnE 1 encI 3 w.heap.size W (.slice (some ⟨g, 0, none⟩) len len) (out.map zmax) ∧ CoachAt W h (occS xs out) ∧ Below w.heap.size w W
theorem MakeAt.below {w W W' : World} {g h len : Nat} {xs : List B3} {out : List Int} (m : MakeAt w g h len xs out W) (hb : Below W.heap.size W W') : MakeAt w g h len xs out W' :=
  ⟨m.1.below hb (Nat.le_refl _), m.2.1.below hb, below_trans m.2.2 hb⟩
theorem CoachAt.grown {w w' : World} {g : Nat} {S : Bool → Nat → Nat} {row : Option Nat} (h : CoachAt w g S) (hg : w.grownBy w' row) (hne : row ≠ some g) : CoachAt w' g S := by
  have e := hg.block g h.1 (fun e => hne e.symm)
  have hc : ∀ o, w'.cell? ⟨g, o, none⟩ = w.cell? ⟨g, o, none⟩ := fun o => by unfold World.cell?; rw [e]
  have hf : ∀ o, w'.frozen? ⟨g, o, none⟩ = w.frozen? ⟨g, o, none⟩ := fun o => by unfold World.frozen?; rw [e]
  exact ⟨Nat.lt_of_lt_of_le h.1 hg.size, fun j => (hf j).trans (h.2.1 j), fun k s hs => ⟨(hc _).trans (h.2.2 k s hs).1, (h.2.2 k s hs).2⟩⟩
theorem occS_set {xs : List B3} {out : List Int} {i : Nat} {p : B3} {t : Nat} (hx : xs[i]? = some p) (ho : out[i]? = some (-1)) : takeS (occS xs out) p.c t (legs p.a.toNat p.b.toNat) = occS xs (out.set i t) := by
  funext k s
  simp only [takeS, occS, occ_set xs out i p t k s hx ho (by omega)]
  by_cases e : k = p.c ∧ s = t
  · obtain ⟨rfl, rfl⟩ := e
    rw [if_pos ⟨rfl, rfl⟩, if_pos ⟨rfl, rfl⟩]
  · rw [if_neg e, if_neg (fun h => e ⟨h.1.symm, by omega⟩), Nat.or_zero]
/-- A seat is taken and written down. -/
theorem MakeAt.put {w W W' : World} {g h len i t : Nat} {xs : List B3} {out : List Int} {p : B3} (m : MakeAt w g h len xs out W) (hgh : g < h) (hw : w.heap.size ≤ g) (hl : out.length = len) (hx : xs[i]? = some p) (ho : out[i]? = some (-1))
    (ht : TookW W h (takeS (occS xs out) p.c t (legs p.a.toNat p.b.toNat)) W') : MakeAt w g h len xs (out.set i t) (W'.setCell ⟨g, i, none⟩ (.int .i64 t)) := by
  rw [occS_set hx ho] at ht
  have h1 : OwnE 1 encI 3 w.heap.size W' (.slice (some ⟨g, 0, none⟩) len len) (out.map zmax) := OwnE.apart m.1 ht.2 (.inr fun e => by injection e with e; have e : g = h := e; omega)
  have h2 := own1_set h1 (by rw [List.length_map]; exact hl) i (t : Int)
  refine ⟨?_, ht.1.grown h2.2 (fun e => by injection e with e; omega), ?_⟩
  · have e : (out.set i (t : Int)).map zmax = (out.map zmax).set i (t : Int) := by rw [List.map_set, zmax_of (by omega)]
    rw [e]
    exact h2.1
  · have hb : Below w.heap.size w W' := below_own m.2.2 ht.2 (by omega)
    exact below_own hb h2.2 hw
theorem MakeAt.frozen {w W : World} {g h len : Nat} {xs : List B3} {out : List Int} (m : MakeAt w g h len xs out W) (j : Nat) : W.frozen? ⟨g, j, none⟩ = false := OwnE.frozen m.1 j
theorem MakeAt.cell {w W : World} {g h len : Nat} {xs : List B3} {out : List Int} (m : MakeAt w g h len xs out W) {i : Nat} {o : Int} (ho : out[i]? = some o) : W.cell? ⟨g, i, none⟩ = some (.int .i64 (zmax o)) :=
  OwnE.cell1 m.1 (by rw [List.getElem?_map, ho]; rfl)
theorem MakeAt.end_ {w W : World} {g h len : Nat} {xs : List B3} {out : List Int} (m : MakeAt w g h len xs out W) (ho : ∀ o ∈ out, 0 ≤ o) : RetOwnB 1 encI 3 out true w (.returned (.tuple #[.slice (some ⟨g, 0, none⟩) len len, .bool true])) W := by
  have e : out.map zmax = out := by
    conv => rhs; rw [← List.map_id out]
    exact List.map_congr_left fun o h => zmax_of (ho o h)
  have h1 := m.1
  rw [e] at h1
  exact ⟨_, rfl, h1, m.2.2⟩
theorem plan_nonneg {n : Nat} {xs : List B3} (hB : BookOk n xs) : ∀ o ∈ plan xs n, 0 ≤ o := fun o ho => by
  obtain ⟨k, hk⟩ := List.getElem?_of_mem ho
  have hl := (plan_all hB).1.1
  have hkl := (List.getElem?_eq_some_iff.1 hk).1
  exact ((plan_all hB).1.2.1 k _ o (List.getElem?_eq_getElem (by omega)) hk).1
theorem map_rep (n : Nat) : (List.replicate n (-1 : Int)).map zmax = List.replicate n 0 := by rw [List.map_replicate]; rfl
theorem occS_rep (xs : List B3) (m : Nat) : occS xs (List.replicate m (-1)) = occS [] [] := by
  funext k s
  simp only [occS]
  rw [occ_none _ _ _ _ (by omega)]
  rfl

set_option maxRecDepth 20000 in
set_option maxHeartbeats 800000 in
theorem implSeatingMake_no (A : Option Addr) (n : Int) (len cap : Nat) (xs : List B3) (w : World) (h : SlE 3 encB w A len xs) (hn : len ≤ 16777216) (hok : ¬ BookOk n xs) :
    Calls Tryz.prog 16 #[.int .i64 n, .slice A len cap] w (RetOwnB 1 encI 3 [] false w) := by
  have H := Lib.hid h
  have HN := Lib.hid hok
  clear h hok
  go_enter Tryz.func16, Tryz.ntmps16
  go_wp2_with fail
  refine (implBookingsValid_any A n len cap xs w H.out hn).mono ?_
  intro e w2 hp
  obtain ⟨rfl, hb⟩ := hp.no HN.out
  have HB := Lib.hid hb
  have hz := hb.size
  clear hp hb
  go_wp2_with fail
  go_ret2
  exact ⟨_, rfl, own_new w2 3 w.heap.size hz encI_len [] #[] rfl (by simp) rfl, below_alloc HB.out _⟩
set_option maxRecDepth 20000 in
set_option maxHeartbeats 6400000 in
theorem implSeatingMake_yes (A : Option Addr) (n len cap : Nat) (xs : List B3) (w : World) (h : SlE 3 encB w A len xs) (hok : BookOk n xs) :
    Calls Tryz.prog 16 #[.int .i64 n, .slice A len cap] w (RetOwnB 1 encI 3 (plan xs n) true w) := by
  have H := Lib.hid h
  have HL := Lib.hid h.len
  have HOK := Lib.hid hok
  have hn1 := hok.1
  have hn7 := hok.2.1
  have hm : len ≤ 16 := by have := hok.2.2.1; rw [HL.out] at this; exact this
  have HW := Lib.hid (okB_w hn7 hok.2.2.2.1)
  have HPL := Lib.hid (fun s => (plan_len hok s).trans h.len)
  have HNN := Lib.hid (plan_nonneg hok)
  clear hok h
  have hmk := fun W => run_make_rowN (P := Tryz.prog) 29 3 (.int .i64 0) 1 8 Tryz.underlying29 info_intN .i64 .i64 len (by omega) (by omega) W
  go_enter Tryz.func16, Tryz.ntmps16
  go_wp2_with fail
  refine (implBookingsValid_any A n len cap xs w H.out (by omega)).mono ?_
  intro e w2 hp
  obtain ⟨rfl, hb⟩ := hp.yes HOK.out
  have hg0 := hb.size
  have HM0 : Hid (MakeAt w w2.heap.size (w2.heap.size + 1) len xs (plan xs 0) ((w2.alloc (.cells (madeCells #[.int .i64 0] len) 3)).alloc (.cells #[.int .u64 0, .int .u64 0, .int .u64 0, .int .u64 0, .int .u64 0, .int .u64 0, .int .u64 0, .int .u64 0, .int .u64 0, .int .u64 0] 78))) := by
    have h1 := own_new (enc := encI) (k := 1) w2 3 w.heap.size hg0 encI_len (List.replicate len (0 : Int)) (madeCells #[.int .i64 0] len) (made1 len) (by simp [maxLen]; omega) rfl
    rw [List.length_replicate] at h1
    refine ⟨?_, ?_, below_alloc (below_alloc hb _) _⟩
    · rw [plan, map_rep, HL.out]
      exact OwnE.alloc h1 _
    · rw [plan, occS_rep]
      have := coach_zero (w2.alloc (.cells (madeCells #[.int .i64 0] len) 3)) 78
      simpa using this
  clear hp hb
  go_wp2_with fail
  obtain ⟨W0, rfl⟩ : ∃ W0, W0 = w2 := ⟨_, rfl⟩
  generalize hg : W0.heap.size = g at *
  have HG := Lib.hid hg
  clear hg
  go_loopw [24] (fun i wr => ∃ st : Nat, st ≤ n ∧ i = .int .i64 st ∧ MakeAt w g (g + 1) len xs (plan xs st) wr) (fun i _ => n - (intOf i).toNat)
  case atStart => exact ⟨0, by omega, rfl, HM0.out⟩
  case round =>
    obtain ⟨st, hst, rfl, hmk1⟩ := hrel
    have HM := Lib.hid hmk1
    clear hmk1 HM0
    by_cases hlt : st < n
    rotate_left
    · have e : st = n := by omega
      subst e
      go_wp2_with fail
      go_ret2
      exact HM.out.end_ HNN.out
    have HIN := Lib.hid (fun j hj => inn_is HOK.out (plan_is HOK.out st) j hj)
    go_wp2_with fail
    go_loopw [29] (fun i wr => ∃ j : Nat, j ≤ len ∧ i = .int .i64 j ∧ MakeAt w g (g + 1) len xs (inn xs st (plan xs st) j) wr) (fun i _ => len - (intOf i).toNat)
    case atStart => exact ⟨0, by omega, rfl, HM.out⟩
    case round =>
      obtain ⟨j, hj, rfl, hmk2⟩ := hrel
      have HM2 := Lib.hid hmk2
      clear hmk2 HM
      by_cases hjl : j < len
      rotate_left
      · have e : j = len := by omega
        have HE := Lib.hid (show inn xs st (plan xs st) j = plan xs (st + 1) by rw [e, plan, HL.out])
        clear e
        go_wp2_with fail
        go_roundw
        case rel => exact ⟨st + 1, by omega, by go_num, by rw [← HE.out]; exact HM2.out⟩
        case measure => simp [intOf]; omega
      obtain ⟨b, off, x, y, z, rfl, hbl, hx, hd, g0, g1, g2⟩ := atB H.out HM2.out.2.2 hjl
      have hok := HW.out _ (mem_at hx)
      unfold OkB at hok
      dsimp only at hok
      obtain ⟨x, rfl⟩ : ∃ i : Nat, x = i := ⟨x.toNat, by omega⟩
      obtain ⟨y, rfl⟩ : ∃ i : Nat, y = i := ⟨y.toNat, by omega⟩
      have hxy : x ≤ y := by omega
      have hy7 : y ≤ 7 := by omega
      have HX := Lib.hid hx
      have HMX := Lib.hid (HM2.out.below (below_alloc (Below.refl _ wr) (.cells #[.int .i64 (x : Int), .int .i64 (y : Int), .bool z] 34)))
      have HNX := Lib.hid (inn_next (stop := st) (out0 := plan xs st) hx)
      have HPI := Lib.hid (HIN.out j (by rw [HL.out]; omega))
      clear hx hd hok HM2
      generalize inn xs st (plan xs st) j = out at *
      by_cases hxs : x = st
      rotate_left
      · have d0 : ((x : Int) == (st : Int)) = false := by simp; omega
        have d1 : ((x : Int) != (st : Int)) = true := by simp; omega
        have HE := Lib.hid (show inn xs st (plan xs st) (j + 1) = out by rw [HNX.out, if_neg (by dsimp only; omega)])
        clear hxs
        go_wp2_with fail
        go_roundw
        case rel => exact ⟨j + 1, by omega, by go_num, by rw [HE.out]; exact HMX.out⟩
        case measure => simp [intOf]; omega
      subst hxs
      have HE := Lib.hid (show inn xs x (plan xs x) (j + 1) = out.set j (pick xs out ⟨x, y, z⟩) by rw [HNX.out, if_pos rfl])
      obtain ⟨hi, hplt, hfr, hlow, htk⟩ := plan_pick HOK.out HPI.out HX.out rfl
      have HI := Lib.hid hi
      have HFR := Lib.hid hfr
      have HLO := Lib.hid hlow
      have HPI1 := Lib.hid HPI.out.1
      have d0 : ((x : Int) == (x : Int)) = true := by simp
      have d1 : ((x : Int) != (x : Int)) = false := by simp
      have HC := Lib.hid (fun W => seatsOf_any x y z W)
      have HSB := Lib.hid (fun (s : Nat) => (occ_blk xs out ⟨x, y, z⟩ s HW.out (HW.out _ (mem_at HX.out))))
      have HTK := Lib.hid (fun (W : World) (hW : CoachAt W (g + 1) (occS xs out)) => take_any (g + 1) x y (pick xs out ⟨x, y, z⟩) z _ W hW hxy hy7 hplt)
      have HFE := Lib.hid (fun (s : Nat) (W : World) (hW : CoachAt W (g + 1) (occS xs out)) => free_any (g + 1) x y z (s : Int) _ W hW hxy hy7)
      have hcb := capOf_bd z
      obtain ⟨hc4, hc6⟩ := hcb
      have w1 : IntKind.i64.wrap ((capOf z : Int) - 1) = (capOf z : Int) - 1 := IntWalk.i64_in _ (by omega)
      dsimp only at hplt
      clear hi hfr hlow htk HNX HPI
      generalize hpk : pick xs out ⟨x, y, z⟩ = pk at *
      generalize hcz : capOf z = cz at *
      have HCZ := Lib.hid hcz
      clear hpk hcz
      go_wp2_with fail
      refine (ticketOf_any x y z _ hxy hy7).mono ?_
      rintro e w3 ⟨rfl, hb3⟩
      have HM3 := Lib.hid (HMX.out.below hb3)
      clear hb3 HMX d0 d1
      go_wp2_with fail
      obtain ⟨W3, rfl⟩ : ∃ W3, W3 = w3 := ⟨_, rfl⟩
      go_loopw [12] (fun i wr => ∃ s : Nat, s ≤ pk ∧ i = .int .i64 s ∧ MakeAt w g (g + 1) len xs out wr) (fun i _ => pk - (intOf i).toNat)
      case atStart => exact ⟨0, by omega, rfl, HM3.out⟩
      case round =>
        obtain ⟨s, hs, rfl, hmk3⟩ := hrel
        have HM4 := Lib.hid hmk3
        clear hmk3 HM3
        by_cases hsp : s < pk
        · have hs1 : (s : Int) < (cz : Int) - 1 := by omega
          have HN := Lib.hid (show ¬ ((0 ≤ (s : Int) ∧ (s : Int) < (cz : Int)) ∧ occS xs out z (s : Int).toNat &&& legs x y = 0) from fun hh => (HSB.out s).2 (HLO.out s hsp) hh.2)
          go_wp2_with fail
          refine (HC.out _).mono ?_
          rintro e w4 ⟨rfl, rfl⟩
          go_wp2_with fail
          refine (HFE.out s _ HM4.out.2.1).mono ?_
          intro e w5 hp
          obtain ⟨rfl, hb5⟩ := hp.no HN.out
          have HM5 := Lib.hid (HM4.out.below hb5)
          clear hp hb5
          go_wp2_with fail
          go_roundw
          case rel => exact ⟨s + 1, by omega, by go_num, HM5.out⟩
          case measure => simp [intOf]; omega
        have e : s = pk := by omega
        subst e
        have HP := Lib.hid (fun (W W' : World) (hW : MakeAt w g (g + 1) len xs out W) (hT : TookW W (g + 1) (takeS (occS xs out) z s (legs x y)) W') => MakeAt.put (i := j) (t := s) hW (by omega) hg0 (HPI1.out.trans HL.out) HX.out HI.out hT)
        have HY := Lib.hid (show (0 ≤ (s : Int) ∧ (s : Int) < (cz : Int)) ∧ occS xs out z (s : Int).toNat &&& legs x y = 0 from ⟨⟨by omega, by omega⟩, Decidable.not_not.1 (fun hne => by
          have := (HSB.out s).1 hne
          rw [HFR.out] at this
          cases this)⟩)
        have i0 : (0 : Int) ≤ (j : Int) := by omega
        have i1 : (j : Int) < (len : Int) := by omega
        by_cases hs1 : (s : Int) < (cz : Int) - 1
        case' pos =>
          go_wp2_with fail
          refine (HC.out _).mono ?_
          rintro e w4 ⟨rfl, rfl⟩
          go_wp2_with fail
          refine (HFE.out s _ HM4.out.2.1).mono ?_
          intro e w5 hp
          obtain ⟨rfl, hb5⟩ := hp.yes HY.out
          have HM5 := Lib.hid (HM4.out.below hb5)
          clear hp hb5 hs1
        case' neg =>
          have d2 : decide ((s : Int) < (cz : Int) - 1) = false := by simpa using hs1
          clear hs1
          go_wp2_with fail
          refine (HC.out _).mono ?_
          rintro e w5 ⟨rfl, rfl⟩
          have HM5 := HM4
        all_goals
          clear HM4
          go_wp2_with fail
          refine (HTK.out _ HM5.out.2.1).mono ?_
          rintro e w6 ⟨rfl, htook⟩
          have HM6 := Lib.hid (HP.out _ _ HM5.out htook)
          have hfz : w6.frozen? ⟨g, j, none⟩ = false := by have := HM6.out.frozen j; rwa [World.frozen?_setCell] at this
          have hcl : ∃ u, w6.cell? ⟨g, j, none⟩ = some u := by
            have h1 := htook.2.block g (by have := HM5.out.2.1.1; omega) (by intro h; injection h with h; omega)
            have h2 := HM5.out.cell HI.out
            exact ⟨_, by unfold World.cell? at h2 ⊢; rw [h1]; exact h2⟩
          obtain ⟨u, hcl⟩ := hcl
          clear htook
          go_wp2_with fail
          go_roundw
          case rel => exact ⟨j + 1, by omega, by go_num, by rw [HE.out]; exact HM6.out⟩
          case measure => simp [intOf]; omega
end Go.Proofs.YtgjllminidlolaaGreatDoor
