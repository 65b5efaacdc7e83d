/- Contracts: SeatsBook. -/
import Derived.Test.YtgjllminidlolaaGreatDoorSWalkD
import Derived.Test.YtgjllminidlolaaGreatDoorConB
import Derived.Deep.RegionHeld3
import Derived.StillTailTactics
set_option linter.unusedVariables false
namespace Go.Proofs.YtgjllminidlolaaGreatDoor
open Go.RowKit

/-- Whether joined lists are bookings. -/
def BJoinOk (n : Int) (xs ys : List B3) : Prop := BookOk n xs ∧ BookOk n (xs ++ ys)

set_option maxRecDepth 20000 in
set_option maxHeartbeats 1600000 in
theorem implSeatsBook_no1 (A : Option Addr) (n : Int) (len cap : Nat) (xs : List B3) (x y : Int) (z : Bool) (w : World) (h : SlE 3 encB w A len xs) (hn : len ≤ 1048577) (hB : ¬ BookOk n xs) :
    Calls Tryz.prog 212 #[.int .i64 n, .slice A len cap, .agg #[.int .i64 x, .int .i64 y, .bool z]] w (RetOwnB 3 encB 34 ([] : List B3) false w) := by
  have H := Lib.hid h
  have HN := Lib.hid hB
  have HB0 := Lib.hid (below_alloc (Below.refl w.heap.size w) (.cells #[.int .i64 x, .int .i64 y, .bool z] 34))
  clear h hB
  go_enter Tryz.func212, Tryz.ntmps212
  go_wp2_with fail
  refine (implBookingsValid_any A n len cap xs _ (H.out.below HB0.out) (by omega)).mono ?_
  intro e w2 hp
  obtain ⟨rfl, hb2⟩ := hp.no HN.out
  have HB2 := Lib.hid (below_trans HB0.out hb2)
  clear hb2 hp
  go_wp2_with fail
  go_ret2
  exact ⟨_, rfl, own_new w2 _ _ HB2.out.size encB_len [] #[] rfl (by simp) rfl, below_alloc HB2.out _⟩
set_option maxRecDepth 20000 in
set_option maxHeartbeats 1600000 in
/-- SeatsBook of the program. -/
theorem implSeatsBook_any (A : Option Addr) (n : Int) (len cap : Nat) (xs : List B3) (x y : Int) (z : Bool) (ys : List B3) (b : Bool) (w : World) (h : SlE 3 encB w A len xs) (hn : len ≤ 1048577)
    (hb : (b = true ∧ BJoinOk n xs [⟨x, y, z⟩] ∧ ys = xs ++ [⟨x, y, z⟩]) ∨ (b = false ∧ ¬ BJoinOk n xs [⟨x, y, z⟩] ∧ ys = [])) :
    Calls Tryz.prog 212 #[.int .i64 n, .slice A len cap, .agg #[.int .i64 x, .int .i64 y, .bool z]] w (RetOwnB 3 encB 34 ys b w) := by
  by_cases hx : BookOk n xs
  rotate_left
  · obtain ⟨rfl, rfl⟩ : b = false ∧ ys = [] := by
      rcases hb with ⟨_, hJ, _⟩ | ⟨rfl, _, rfl⟩
      · exact absurd hJ.1 hx
      · exact ⟨rfl, rfl⟩
    exact implSeatsBook_no1 A n len cap xs x y z w h hn hx
  have H := Lib.hid h
  have HX := Lib.hid hx
  have HBB := Lib.hid hb
  have HB0 := Lib.hid (below_alloc (Below.refl w.heap.size w) (.cells #[.int .i64 x, .int .i64 y, .bool z] 34))
  have HCL := Lib.hid (fun (W : World) (hW : Below (w.alloc (.cells #[.int .i64 x, .int .i64 y, .bool z] 34)).heap.size (w.alloc (.cells #[.int .i64 x, .int .i64 y, .bool z] 34)) W) => (show W.cell? ⟨w.heap.size, 0, none⟩ = some (.int .i64 x) ∧ W.cell? ⟨w.heap.size, 1, none⟩ = some (.int .i64 y) ∧ W.cell? ⟨w.heap.size, 2, none⟩ = some (.bool z) from by
    have hr : ∀ j, W.cell? ⟨w.heap.size, j, none⟩ = (#[.int .i64 x, .int .i64 y, .bool z] : Array Value)[j]? := fun j => by
      rw [hW.cell (p := ⟨w.heap.size, j, none⟩) (by simp)]
      exact cell_of_row _ _ j _ 34 (0, 0) (heap_alloc_new w _)
    exact ⟨hr 0, hr 1, hr 2⟩))
  have HLX := Lib.hid h.len
  clear h hx hb
  go_enter Tryz.func212, Tryz.ntmps212
  go_wp2_with fail
  refine (implBookingsValid_any A n len cap xs _ (H.out.below HB0.out) (by omega)).mono ?_
  intro e w2 hp
  obtain ⟨rfl, hb2⟩ := hp.yes HX.out
  obtain ⟨c0, c1, c2⟩ := HCL.out _ hb2
  have HB2 := Lib.hid (below_trans HB0.out hb2)
  have S2 := Lib.hid (slE_new (k := 3) (enc := encB) w2 34 encB_len [⟨x, y, z⟩] #[.int .i64 x, .int .i64 y, .bool z] rfl (by simp [maxLen]) (n := 1) rfl (g := w2.heap.size) rfl)
  have hs := slS_new (k := 3) (enc := encB) (w := w2.alloc (.cells #[.int .i64 x, .int .i64 y, .bool z] 34)) [⟨A, len, cap, xs⟩, ⟨some ⟨w2.heap.size, 0, none⟩, 1, 1, [⟨x, y, z⟩]⟩] #[.slice A len cap, .slice (some ⟨w2.heap.size, 0, none⟩) 1 1] 26 rfl (m := 2) rfl (by
    intro s hs
    simp only [List.mem_cons, List.not_mem_nil, or_false] at hs
    rcases hs with rfl | rfl
    · exact (H.out.below HB2.out).alloc _
    · exact S2.out)
  rw [show (w2.alloc (.cells #[.int .i64 x, .int .i64 y, .bool z] 34)).heap.size = w2.heap.size + 1 by simp] at hs
  have HS := Lib.hid hs
  clear hb2 hp hs HCL
  go_wp2_with fail
  refine (concatB_any HS.out (by omega) (by simp [snLen]; omega)).mono ?_
  rintro e w3 ⟨v, rfl, hown, hb3⟩
  have HB3 := Lib.hid (below_trans (below_alloc (below_alloc HB2.out _) _) hb3)
  have ea : snAll [(⟨A, len, cap, xs⟩ : Sn B3), ⟨some ⟨w2.heap.size, 0, none⟩, 1, 1, [⟨x, y, z⟩]⟩] = xs ++ [⟨x, y, z⟩] := by simp [snAll]
  rw [ea] at hown
  have hown0 := hown.base_le (base' := w.heap.size) (by have := HB2.out.size; simp; omega)
  obtain ⟨A1, c1', rfl, hs1⟩ := hown0.sl encB_len
  have HS1 := Lib.hid hs1
  have HO1 := Lib.hid hown0
  have hl3 : (xs ++ [(⟨x, y, z⟩ : B3)]).length ≤ 1048578 := by rw [List.length_append, HLX.out]; simp; omega
  clear hown hb3 ea hown0 hs1 c0 c1 c2
  generalize (xs ++ [(⟨x, y, z⟩ : B3)]).length = len3 at *
  go_wp2_with fail
  refine (implBookingsValid_any A1 n len3 c1' (xs ++ [⟨x, y, z⟩]) w3 HS1.out (by omega)).mono ?_
  intro e w4 hp
  by_cases hj : BookOk n (xs ++ [⟨x, y, z⟩])
  · obtain ⟨rfl, hb4⟩ := hp.yes hj
    obtain ⟨rfl, rfl⟩ : b = true ∧ ys = xs ++ [⟨x, y, z⟩] := by
      rcases HBB.out with ⟨rfl, _, rfl⟩ | ⟨_, hJ, _⟩
      · exact ⟨rfl, rfl⟩
      · exact absurd ⟨HX.out, hj⟩ hJ
    have HB4 := Lib.hid (below_trans HB3.out hb4)
    have HO4 := Lib.hid (HO1.out.below hb4 (Nat.le_refl _))
    clear hb4 hp hj HBB
    go_wp2_with fail
    go_ret2
    exact ⟨_, rfl, HO4.out, HB4.out⟩
  · obtain ⟨rfl, hb4⟩ := hp.no hj
    obtain ⟨rfl, rfl⟩ : b = false ∧ ys = [] := by
      rcases HBB.out with ⟨_, hJ, _⟩ | ⟨rfl, _, rfl⟩
      · exact absurd hJ.2 hj
      · exact ⟨rfl, rfl⟩
    have HB4 := Lib.hid (below_trans HB3.out hb4)
    clear hb4 hp hj HBB
    go_wp2_with fail
    go_ret2
    exact ⟨_, rfl, own_new w4 _ _ HB4.out.size encB_len [] #[] rfl (by simp) rfl, below_alloc HB4.out _⟩

set_option maxRecDepth 20000 in
set_option maxHeartbeats 3200000 in
/-- SeatsBook of the reference. -/
theorem specSeatsBook_any (A : Option Addr) (n : Int) (len cap : Nat) (xs : List B3) (x y : Int) (z : Bool) (ys : List B3) (b : Bool) (w : World) (h : SlE 3 encB w A len xs) (hn : len ≤ 1048577)
    (hb : (b = true ∧ BJoinOk n xs [⟨x, y, z⟩] ∧ ys = xs ++ [⟨x, y, z⟩]) ∨ (b = false ∧ ¬ BJoinOk n xs [⟨x, y, z⟩] ∧ ys = [])) :
    Calls Tryz.prog 76 #[.int .i64 n, .slice A len cap, .agg #[.int .i64 x, .int .i64 y, .bool z]] w (RetOwnB 3 encB 34 ys b w) := by
  have H := Lib.hid h
  have HB := Lib.hid hb
  have hl1 := h.len
  have HL := Lib.hid hl1
  clear h hb hl1
  have n1 : (([] : List B3).length + len) * 24 ≤ 140737488355328 ∧ ([] : List B3).length + len ≤ maxLen := by rw [List.length_nil]; exact ⟨by omega, by unfold maxLen; omega⟩
  have n2 : (([] ++ xs).length + 1) * 24 ≤ 140737488355328 ∧ ([] ++ xs).length + 1 ≤ maxLen := by rw [List.nil_append, HL.out]; exact ⟨by omega, by unfold maxLen; omega⟩
  have N1 := Lib.hid n1
  have N2 := Lib.hid n2
  clear n1 n2
  generalize hC : Obj.cells #[.int .i64 x, .int .i64 y, .bool z] 34 = C
  have HC := Lib.hid hC
  -- the world behind the box, and what may follow it
  have b0 := below_alloc (Below.refl w.heap.size w) C
  have hz0 : w.heap.size ≤ (w.alloc C).heap.size := by simp
  have hsh : ∀ W, Below (w.heap.size + 1) (w.alloc C) W → Below w.heap.size w W := fun W hW => b0.trans (hW.mono (by omega))
  have hcl : ∀ W, Below (w.heap.size + 1) (w.alloc C) W → W.cell? ⟨w.heap.size, 0, none⟩ = some (.int .i64 x) ∧ W.cell? ⟨w.heap.size, 1, none⟩ = some (.int .i64 y) ∧ W.cell? ⟨w.heap.size, 2, none⟩ = some (.bool z) := by
    intro W hW
    have hr : ∀ j, W.cell? ⟨w.heap.size, j, none⟩ = (#[.int .i64 x, .int .i64 y, .bool z] : Array Value)[j]? := fun j => by
      rw [hW.cell (p := ⟨w.heap.size, j, none⟩) (by simp), ← HC.out]
      exact cell_of_row _ _ j _ 34 (0, 0) (heap_alloc_new w _)
    exact ⟨hr 0, hr 1, hr 2⟩
  have HSH := Lib.hid hsh
  have HCL := Lib.hid hcl
  have ow : ∀ (W : World) (g : Nat), w.heap.size + 1 ≤ W.heap.size → g = W.heap.size → OwnE 3 encB 34 (w.heap.size + 1) (W.alloc (.cells #[] 34)) (.slice (some ⟨g, 0, none⟩) 0 0) [] :=
    fun W g h1 h2 => own_new' W _ _ h1 encB_len [] #[] rfl (by simp) rfl h2
  have sn : ∀ (W : World) (g : Nat), g = W.heap.size → SlE 3 encB (W.alloc C) (some ⟨g, 0, none⟩) 1 [⟨x, y, z⟩] :=
    fun W g h2 => HC.out ▸ slE_new W _ encB_len [⟨x, y, z⟩] #[.int .i64 x, .int .i64 y, .bool z] rfl (by simp [maxLen]) rfl h2
  -- the three worlds in which the first append may run
  have z1 : (w.alloc C).heap.size = w.heap.size + 1 := by simp
  have z2 : ((w.alloc C).alloc C).heap.size = w.heap.size + 1 + 1 := by simp
  have z3 : ((w.alloc C).alloc (.cells #[] 34)).heap.size = w.heap.size + 1 + 1 := by simp
  have B0 := Lib.hid (Below.refl (w.heap.size + 1) (w.alloc C)).drew
  have Ba := Lib.hid ((Below.refl (w.heap.size + 1) (w.alloc C)).alloc (by omega) (.cells #[] 34)).drew
  have Bb := Lib.hid (((Below.refl (w.heap.size + 1) (w.alloc C)).alloc (by omega) (.cells #[] 34)).alloc (by omega) C).drew
  have Bc := Lib.hid ((Below.refl (w.heap.size + 1) (w.alloc C)).alloc (by omega) C).drew
  have Bd := Lib.hid (((Below.refl (w.heap.size + 1) (w.alloc C)).alloc (by omega) C).alloc (by omega) (.cells #[] 34)).drew
  have Oa := Lib.hid (ow (w.alloc C) (w.heap.size + 1) (by omega) z1.symm).drew
  have Ob := Lib.hid ((ow (w.alloc C) (w.heap.size + 1) (by omega) z1.symm).alloc C).drew
  have Od := Lib.hid (ow ((w.alloc C).alloc C) (w.heap.size + 1 + 1) (by omega) z2.symm).drew
  have Sb := Lib.hid (sn ((w.alloc C).alloc (.cells #[] 34)) (w.heap.size + 1 + 1) z3.symm).drew
  have Sd := Lib.hid ((sn (w.alloc C) (w.heap.size + 1) z1.symm).alloc (.cells #[] 34)).drew
  have Xa := Lib.hid (show w.heap.size + 1 ≤ ((w.alloc C).alloc (.cells #[] 34)).drew.heap.size from by simp)
  have Xb := Lib.hid (show w.heap.size + 1 ≤ (((w.alloc C).alloc (.cells #[] 34)).alloc C).drew.heap.size from by simp <;> omega)
  have Xd := Lib.hid (show w.heap.size + 1 ≤ (((w.alloc C).alloc C).alloc (.cells #[] 34)).drew.heap.size from by simp)
  have Ra := Lib.hid (show ∀ j, Value.ownBlock (.slice (some ⟨w.heap.size + 1, 0, none⟩) 0 0) = some j → w.heap.size + 1 ≤ j from fun j hj => by simp [Value.ownBlock] at hj; omega)
  have Rd := Lib.hid (show ∀ j, Value.ownBlock (.slice (some ⟨w.heap.size + 1 + 1, 0, none⟩) 0 0) = some j → w.heap.size + 1 ≤ j from fun j hj => by simp [Value.ownBlock] at hj; omega)
  have Nb := Lib.hid (show Value.ownBlock (.slice (some ⟨w.heap.size + 1, 0, none⟩) 0 0) ≠ some (w.heap.size + 1 + 1) from by simp [Value.ownBlock])
  have Nd := Lib.hid (show Value.ownBlock (.slice (some ⟨w.heap.size + 1 + 1, 0, none⟩) 0 0) ≠ some (w.heap.size + 1) from by simp [Value.ownBlock])
  have SN := Lib.hid sn
  clear ow sn z1 z2 z3 hz0 hsh hcl b0
  subst hC
  go_enter Tryz.func76, Tryz.ntmps76
  go_wp2_with fail
  go_region_held3 (fun W => W.cell? ⟨w.heap.size, 0, none⟩ = some (.int .i64 x) ∧ W.cell? ⟨w.heap.size, 1, none⟩ = some (.int .i64 y) ∧ W.cell? ⟨w.heap.size, 2, none⟩ = some (.bool z))
    (first | exact HCL.out _ B0.out | exact HCL.out _ Ba.out | exact HCL.out _ Bb.out | exact HCL.out _ Bc.out | exact HCL.out _ Bd.out | (have := B1.out; exact HCL.out _ this) | (have := B1'.out; exact HCL.out _ this) | (have := B2.out; exact HCL.out _ this) | (have := B1.out.alloc X1.out (.cells #[.int .i64 x, .int .i64 y, .bool z] 34); exact HCL.out _ this))
    (first
      | (refine step_cat (bytes := 24) (base := w.heap.size + 1) encB_len encB_one (Nat.succ_pos 2) rfl (.tmp 9) (.tmp 10) _ rfl Tryz.underlying26 info_conB rfl _ [] rfl Oa.out rfl (H.out.below (HSH.out _ Ba.out)) N1.out.1 N1.out.2 Xa.out ?_; intro v1 w1 hown1 hg1; have X1 := Lib.hid (Nat.le_trans Xa.out hg1.size); have B1 := Lib.hid (Ba.out.grown hg1 Xa.out Ra.out);  have O1 := Lib.hid hown1; clear hown1 hg1)
      | (refine step_cat (bytes := 24) (base := w.heap.size + 1) encB_len encB_one (Nat.succ_pos 2) rfl (.tmp 9) (.tmp 10) _ rfl Tryz.underlying26 info_conB rfl _ [] rfl Ob.out rfl (H.out.below (HSH.out _ Bb.out)) N1.out.1 N1.out.2 Xb.out ?_; intro v1 w1 hown1 hg1; have X1 := Lib.hid (Nat.le_trans Xb.out hg1.size); have B1 := Lib.hid (Bb.out.grown hg1 Xb.out Ra.out); have S1 := Lib.hid (Sb.out.grown hg1 Nb.out); have O1 := Lib.hid hown1; clear hown1 hg1)
      | (refine step_cat (bytes := 24) (base := w.heap.size + 1) encB_len encB_one (Nat.succ_pos 2) rfl (.tmp 9) (.tmp 10) _ rfl Tryz.underlying26 info_conB rfl _ [] rfl Od.out rfl (H.out.below (HSH.out _ Bd.out)) N1.out.1 N1.out.2 Xd.out ?_; intro v1 w1 hown1 hg1; have X1 := Lib.hid (Nat.le_trans Xd.out hg1.size); have B1 := Lib.hid (Bd.out.grown hg1 Xd.out Rd.out); have S1 := Lib.hid (Sd.out.grown hg1 Nd.out); have O1 := Lib.hid hown1; clear hown1 hg1)
      | (refine step_cat (bytes := 24) (base := w.heap.size + 1) encB_len encB_one (Nat.succ_pos 2) rfl (.tmp 11) (.tmp 13) _ rfl Tryz.underlying26 info_conB rfl _ _ rfl O1.out rfl S1.out N2.out.1 N2.out.2 X1.out ?_; intro v2 w2 hown2 hg2; have B2 := Lib.hid (B1.out.grown hg2 X1.out (fun j hj => (O1.out.lt j hj).1)); have O2 := Lib.hid hown2; clear hown2 hg2)
      | (go_loud (refine step_cat (bytes := 24) (base := w.heap.size + 1) encB_len encB_one (Nat.succ_pos 2) rfl (.tmp 11) (.tmp 13) _ rfl Tryz.underlying26 info_conB rfl _ _ rfl (O1.out.alloc _) rfl (SN.out w1 _ rfl) N2.out.1 N2.out.2 (Nat.le_trans X1.out (below_alloc (Below.refl _ w1) _).size) ?_; intro v2 w2 hown2 hg2; have B2 := Lib.hid ((B1.out.alloc X1.out _).grown hg2 (Nat.le_trans X1.out (below_alloc (Below.refl _ w1) _).size) (fun j hj => (O1.out.lt j hj).1)); have O2 := Lib.hid hown2; clear hown2 hg2)))
  all_goals
    have hown2 := O2.out.base_le (base' := w.heap.size) (Nat.le_succ _)
    have HB2 := Lib.hid (HSH.out _ B2.out)
    rw [List.nil_append] at hown2
    obtain ⟨A2, c2, rfl, hs2⟩ := hown2.sl encB_len
    have HS2 := Lib.hid hs2
    have HO2 := Lib.hid hown2
    have hl3 : (xs ++ [(⟨x, y, z⟩ : B3)]).length ≤ 1048578 := by rw [List.length_append, HL.out]; simp; omega
    have B0' := Lib.hid hn
    clear hs2 hown2 O2 HSH HCL SN
    generalize (xs ++ [(⟨x, y, z⟩ : B3)]).length = len3 at *
    by_cases hx : BookOk n xs
    · have HX := Lib.hid hx
      clear hx
      go_wp2_with fail
      refine (specBookingsValid_any A n len cap xs w2 (H.out.below HB2.out) (by omega)).mono ?_
      intro e w3 hp
      obtain ⟨rfl, hb3⟩ := hp.yes HX.out
      have HB3 := Lib.hid (below_trans HB2.out hb3)
      have HS3 := Lib.hid (HS2.out.below hb3)
      have HO3 := Lib.hid (HO2.out.below hb3 (Nat.le_refl _))
      clear hb3 hp
      by_cases hz : BookOk n (xs ++ [⟨x, y, z⟩])
      · obtain ⟨rfl, rfl⟩ : b = true ∧ ys = xs ++ [⟨x, y, z⟩] := by
          rcases HB.out with ⟨rfl, _, rfl⟩ | ⟨_, hJ, _⟩
          · exact ⟨rfl, rfl⟩
          · exact absurd ⟨HX.out, hz⟩ hJ
        have HZ := Lib.hid hz
        clear hz
        go_wp2_with fail
        refine (specBookingsValid_any A2 n len3 c2 _ w3 HS3.out (by omega)).mono ?_
        intro e w5 hp
        obtain ⟨rfl, hb5⟩ := hp.yes HZ.out
        have HB5 := Lib.hid (below_trans HB3.out hb5)
        have HO5 := Lib.hid (HO3.out.below hb5 (Nat.le_refl _))
        clear hb5 hp
        go_wp2
        go_ret2
        exact ⟨_, rfl, HO5.out, HB5.out⟩
      · obtain ⟨rfl, rfl⟩ : b = false ∧ ys = [] := by
          rcases HB.out with ⟨_, hJ, _⟩ | ⟨rfl, _, rfl⟩
          · exact absurd hJ.2 hz
          · exact ⟨rfl, rfl⟩
        have HZ := Lib.hid hz
        clear hz
        go_wp2_with fail
        refine (specBookingsValid_any A2 n len3 c2 _ w3 HS3.out (by omega)).mono ?_
        intro e w5 hp
        obtain ⟨rfl, hb5⟩ := hp.no HZ.out
        have HB5 := Lib.hid (below_trans HB3.out hb5)
        clear hb5 hp
        go_wp2
        go_ret2
        exact ⟨_, rfl, own_new w5 _ _ HB5.out.size encB_len [] #[] rfl (by simp) rfl, below_alloc HB5.out _⟩
    · obtain ⟨rfl, rfl⟩ : b = false ∧ ys = [] := by
        rcases HB.out with ⟨_, hJ, _⟩ | ⟨rfl, _, rfl⟩
        · exact absurd hJ.1 hx
        · exact ⟨rfl, rfl⟩
      go_wp2_with fail
      refine (specBookingsValid_any A n len cap xs w2 (H.out.below HB2.out) (by omega)).mono ?_
      intro e w3 hp
      obtain ⟨rfl, hb3⟩ := hp.no hx
      have HB3 := Lib.hid (below_trans HB2.out hb3)
      clear hb3 hp
      go_wp2
      go_ret2
      exact ⟨_, rfl, own_new w3 _ _ HB3.out.size encB_len [] #[] rfl (by simp) rfl, below_alloc HB3.out _⟩
end Go.Proofs.YtgjllminidlolaaGreatDoor
