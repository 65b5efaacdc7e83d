/- Texts of mine in one: SWalkK SDraw SWalkE SWalkF SWalkG IntN. -/
import Derived.Test.YtgjllminidlolaaGreatDoorMAC
import Derived.Deep.RegionHeld3
import Derived.StillTailTactics
import Derived.Test.YtgjllminidlolaaGreatDoorMAB
import Derived.Test.YtgjllminidlolaaGreatDoorMAA
/- Contracts: SeatsBook. -/
set_option linter.unusedVariables false
namespace Go.Proofs.YtgjllminidlolaaGreatDoor
open Go.RowKit

/-- Whether joined lists are bookings. -/
def BJoinOk (n : Int) (xs ys : List B3) : Prop := BookOk n xs ∧ BookOk n (xs ++ ys)

set_option maxRecDepth 20000 in
set_option maxHeartbeats 1600000 in
theorem implSeatsBook_no1 (A : Option Addr) (n : Int) (len cap : Nat) (xs : List B3) (x y : Int) (z : Bool) (w : World) (h : SlE 3 encB w A len xs) (hn : len ≤ 1048577) (hB : ¬ BookOk n xs) :
    Calls Tryz.prog 212 #[.int .i64 n, .slice A len cap, .agg #[.int .i64 x, .int .i64 y, .bool z]] w (RetOwnB 3 encB 34 ([] : List B3) false w) := by
  have H := Lib.hid h
  have HN := Lib.hid hB
  have HB0 := Lib.hid (below_alloc (Below.refl w.heap.size w) (.cells #[.int .i64 x, .int .i64 y, .bool z] 34))
  clear h hB
  go_enter Tryz.func212, Tryz.ntmps212
  go_wp2_with fail
  refine (implBookingsValid_any A n len cap xs _ (H.out.below HB0.out) (by omega)).mono ?_
  intro e w2 hp
  obtain ⟨rfl, hb2⟩ := hp.no HN.out
  have HB2 := Lib.hid (below_trans HB0.out hb2)
  clear hb2 hp
  go_wp2_with fail
  go_ret2
  exact ⟨_, rfl, own_new w2 _ _ HB2.out.size encB_len [] #[] rfl (by simp) rfl, below_alloc HB2.out _⟩
set_option maxRecDepth 20000 in
set_option maxHeartbeats 1600000 in
/-- SeatsBook of the program. -/
theorem implSeatsBook_any (A : Option Addr) (n : Int) (len cap : Nat) (xs : List B3) (x y : Int) (z : Bool) (ys : List B3) (b : Bool) (w : World) (h : SlE 3 encB w A len xs) (hn : len ≤ 1048577)
    (hb : (b = true ∧ BJoinOk n xs [⟨x, y, z⟩] ∧ ys = xs ++ [⟨x, y, z⟩]) ∨ (b = false ∧ ¬ BJoinOk n xs [⟨x, y, z⟩] ∧ ys = [])) :
    Calls Tryz.prog 212 #[.int .i64 n, .slice A len cap, .agg #[.int .i64 x, .int .i64 y, .bool z]] w (RetOwnB 3 encB 34 ys b w) := by
  by_cases hx : BookOk n xs
  rotate_left
  · obtain ⟨rfl, rfl⟩ : b = false ∧ ys = [] := by
      rcases hb with ⟨_, hJ, _⟩ | ⟨rfl, _, rfl⟩
      · exact absurd hJ.1 hx
      · exact ⟨rfl, rfl⟩
    exact implSeatsBook_no1 A n len cap xs x y z w h hn hx
  have H := Lib.hid h
  have HX := Lib.hid hx
  have HBB := Lib.hid hb
  have HB0 := Lib.hid (below_alloc (Below.refl w.heap.size w) (.cells #[.int .i64 x, .int .i64 y, .bool z] 34))
  have HCL := Lib.hid (fun (W : World) (hW : Below (w.alloc (.cells #[.int .i64 x, .int .i64 y, .bool z] 34)).heap.size (w.alloc (.cells #[.int .i64 x, .int .i64 y, .bool z] 34)) W) => (show W.cell? ⟨w.heap.size, 0, none⟩ = some (.int .i64 x) ∧ W.cell? ⟨w.heap.size, 1, none⟩ = some (.int .i64 y) ∧ W.cell? ⟨w.heap.size, 2, none⟩ = some (.bool z) from by
    have hr : ∀ j, W.cell? ⟨w.heap.size, j, none⟩ = (#[.int .i64 x, .int .i64 y, .bool z] : Array Value)[j]? := fun j => by
      rw [hW.cell (p := ⟨w.heap.size, j, none⟩) (by simp)]
      exact cell_of_row _ _ j _ 34 (0, 0) (heap_alloc_new w _)
    exact ⟨hr 0, hr 1, hr 2⟩))
  have HLX := Lib.hid h.len
  clear h hx hb
  go_enter Tryz.func212, Tryz.ntmps212
  go_wp2_with fail
  refine (implBookingsValid_any A n len cap xs _ (H.out.below HB0.out) (by omega)).mono ?_
  intro e w2 hp
  obtain ⟨rfl, hb2⟩ := hp.yes HX.out
  obtain ⟨c0, c1, c2⟩ := HCL.out _ hb2
  have HB2 := Lib.hid (below_trans HB0.out hb2)
  have S2 := Lib.hid (slE_new (k := 3) (enc := encB) w2 34 encB_len [⟨x, y, z⟩] #[.int .i64 x, .int .i64 y, .bool z] rfl (by simp [maxLen]) (n := 1) rfl (g := w2.heap.size) rfl)
  have hs := slS_new (k := 3) (enc := encB) (w := w2.alloc (.cells #[.int .i64 x, .int .i64 y, .bool z] 34)) [⟨A, len, cap, xs⟩, ⟨some ⟨w2.heap.size, 0, none⟩, 1, 1, [⟨x, y, z⟩]⟩] #[.slice A len cap, .slice (some ⟨w2.heap.size, 0, none⟩) 1 1] 26 rfl (m := 2) rfl (by
    intro s hs
    simp only [List.mem_cons, List.not_mem_nil, or_false] at hs
    rcases hs with rfl | rfl
    · exact (H.out.below HB2.out).alloc _
    · exact S2.out)
  rw [show (w2.alloc (.cells #[.int .i64 x, .int .i64 y, .bool z] 34)).heap.size = w2.heap.size + 1 by simp] at hs
  have HS := Lib.hid hs
  clear hb2 hp hs HCL
  go_wp2_with fail
  refine (concatB_any HS.out (by omega) (by simp [snLen]; omega)).mono ?_
  rintro e w3 ⟨v, rfl, hown, hb3⟩
  have HB3 := Lib.hid (below_trans (below_alloc (below_alloc HB2.out _) _) hb3)
  have ea : snAll [(⟨A, len, cap, xs⟩ : Sn B3), ⟨some ⟨w2.heap.size, 0, none⟩, 1, 1, [⟨x, y, z⟩]⟩] = xs ++ [⟨x, y, z⟩] := by simp [snAll]
  rw [ea] at hown
  have hown0 := hown.base_le (base' := w.heap.size) (by have := HB2.out.size; simp; omega)
  obtain ⟨A1, c1', rfl, hs1⟩ := hown0.sl encB_len
  have HS1 := Lib.hid hs1
  have HO1 := Lib.hid hown0
  have hl3 : (xs ++ [(⟨x, y, z⟩ : B3)]).length ≤ 1048578 := by rw [List.length_append, HLX.out]; simp; omega
  clear hown hb3 ea hown0 hs1 c0 c1 c2
  generalize (xs ++ [(⟨x, y, z⟩ : B3)]).length = len3 at *
  go_wp2_with fail
  refine (implBookingsValid_any A1 n len3 c1' (xs ++ [⟨x, y, z⟩]) w3 HS1.out (by omega)).mono ?_
  intro e w4 hp
  by_cases hj : BookOk n (xs ++ [⟨x, y, z⟩])
  · obtain ⟨rfl, hb4⟩ := hp.yes hj
    obtain ⟨rfl, rfl⟩ : b = true ∧ ys = xs ++ [⟨x, y, z⟩] := by
      rcases HBB.out with ⟨rfl, _, rfl⟩ | ⟨_, hJ, _⟩
      · exact ⟨rfl, rfl⟩
      · exact absurd ⟨HX.out, hj⟩ hJ
    have HB4 := Lib.hid (below_trans HB3.out hb4)
    have HO4 := Lib.hid (HO1.out.below hb4 (Nat.le_refl _))
    clear hb4 hp hj HBB
    go_wp2_with fail
    go_ret2
    exact ⟨_, rfl, HO4.out, HB4.out⟩
  · obtain ⟨rfl, hb4⟩ := hp.no hj
    obtain ⟨rfl, rfl⟩ : b = false ∧ ys = [] := by
      rcases HBB.out with ⟨_, hJ, _⟩ | ⟨rfl, _, rfl⟩
      · exact absurd hJ.2 hj
      · exact ⟨rfl, rfl⟩
    have HB4 := Lib.hid (below_trans HB3.out hb4)
    clear hb4 hp hj HBB
    go_wp2_with fail
    go_ret2
    exact ⟨_, rfl, own_new w4 _ _ HB4.out.size encB_len [] #[] rfl (by simp) rfl, below_alloc HB4.out _⟩

set_option maxRecDepth 20000 in
set_option maxHeartbeats 3200000 in
/-- SeatsBook of the reference. -/
theorem specSeatsBook_any (A : Option Addr) (n : Int) (len cap : Nat) (xs : List B3) (x y : Int) (z : Bool) (ys : List B3) (b : Bool) (w : World) (h : SlE 3 encB w A len xs) (hn : len ≤ 1048577)
    (hb : (b = true ∧ BJoinOk n xs [⟨x, y, z⟩] ∧ ys = xs ++ [⟨x, y, z⟩]) ∨ (b = false ∧ ¬ BJoinOk n xs [⟨x, y, z⟩] ∧ ys = [])) :
    Calls Tryz.prog 76 #[.int .i64 n, .slice A len cap, .agg #[.int .i64 x, .int .i64 y, .bool z]] w (RetOwnB 3 encB 34 ys b w) := by
  have H := Lib.hid h
  have HB := Lib.hid hb
  have hl1 := h.len
  have HL := Lib.hid hl1
  clear h hb hl1
  have n1 : (([] : List B3).length + len) * 24 ≤ 140737488355328 ∧ ([] : List B3).length + len ≤ maxLen := by rw [List.length_nil]; exact ⟨by omega, by unfold maxLen; omega⟩
  have n2 : (([] ++ xs).length + 1) * 24 ≤ 140737488355328 ∧ ([] ++ xs).length + 1 ≤ maxLen := by rw [List.nil_append, HL.out]; exact ⟨by omega, by unfold maxLen; omega⟩
  have N1 := Lib.hid n1
  have N2 := Lib.hid n2
  clear n1 n2
  generalize hC : Obj.cells #[.int .i64 x, .int .i64 y, .bool z] 34 = C
  have HC := Lib.hid hC
  -- the world behind the box, and what may follow it
  have b0 := below_alloc (Below.refl w.heap.size w) C
  have hz0 : w.heap.size ≤ (w.alloc C).heap.size := by simp
  have hsh : ∀ W, Below (w.heap.size + 1) (w.alloc C) W → Below w.heap.size w W := fun W hW => b0.trans (hW.mono (by omega))
  have hcl : ∀ W, Below (w.heap.size + 1) (w.alloc C) W → W.cell? ⟨w.heap.size, 0, none⟩ = some (.int .i64 x) ∧ W.cell? ⟨w.heap.size, 1, none⟩ = some (.int .i64 y) ∧ W.cell? ⟨w.heap.size, 2, none⟩ = some (.bool z) := by
    intro W hW
    have hr : ∀ j, W.cell? ⟨w.heap.size, j, none⟩ = (#[.int .i64 x, .int .i64 y, .bool z] : Array Value)[j]? := fun j => by
      rw [hW.cell (p := ⟨w.heap.size, j, none⟩) (by simp), ← HC.out]
      exact cell_of_row _ _ j _ 34 (0, 0) (heap_alloc_new w _)
    exact ⟨hr 0, hr 1, hr 2⟩
  have HSH := Lib.hid hsh
  have HCL := Lib.hid hcl
  have ow : ∀ (W : World) (g : Nat), w.heap.size + 1 ≤ W.heap.size → g = W.heap.size → OwnE 3 encB 34 (w.heap.size + 1) (W.alloc (.cells #[] 34)) (.slice (some ⟨g, 0, none⟩) 0 0) [] :=
    fun W g h1 h2 => own_new' W _ _ h1 encB_len [] #[] rfl (by simp) rfl h2
  have sn : ∀ (W : World) (g : Nat), g = W.heap.size → SlE 3 encB (W.alloc C) (some ⟨g, 0, none⟩) 1 [⟨x, y, z⟩] :=
    fun W g h2 => HC.out ▸ slE_new W _ encB_len [⟨x, y, z⟩] #[.int .i64 x, .int .i64 y, .bool z] rfl (by simp [maxLen]) rfl h2
  -- the three worlds in which the first append may run
  have z1 : (w.alloc C).heap.size = w.heap.size + 1 := by simp
  have z2 : ((w.alloc C).alloc C).heap.size = w.heap.size + 1 + 1 := by simp
  have z3 : ((w.alloc C).alloc (.cells #[] 34)).heap.size = w.heap.size + 1 + 1 := by simp
  have B0 := Lib.hid (Below.refl (w.heap.size + 1) (w.alloc C)).drew
  have Ba := Lib.hid ((Below.refl (w.heap.size + 1) (w.alloc C)).alloc (by omega) (.cells #[] 34)).drew
  have Bb := Lib.hid (((Below.refl (w.heap.size + 1) (w.alloc C)).alloc (by omega) (.cells #[] 34)).alloc (by omega) C).drew
  have Bc := Lib.hid ((Below.refl (w.heap.size + 1) (w.alloc C)).alloc (by omega) C).drew
  have Bd := Lib.hid (((Below.refl (w.heap.size + 1) (w.alloc C)).alloc (by omega) C).alloc (by omega) (.cells #[] 34)).drew
  have Oa := Lib.hid (ow (w.alloc C) (w.heap.size + 1) (by omega) z1.symm).drew
  have Ob := Lib.hid ((ow (w.alloc C) (w.heap.size + 1) (by omega) z1.symm).alloc C).drew
  have Od := Lib.hid (ow ((w.alloc C).alloc C) (w.heap.size + 1 + 1) (by omega) z2.symm).drew
  have Sb := Lib.hid (sn ((w.alloc C).alloc (.cells #[] 34)) (w.heap.size + 1 + 1) z3.symm).drew
  have Sd := Lib.hid ((sn (w.alloc C) (w.heap.size + 1) z1.symm).alloc (.cells #[] 34)).drew
  have Xa := Lib.hid (show w.heap.size + 1 ≤ ((w.alloc C).alloc (.cells #[] 34)).drew.heap.size from by simp)
  have Xb := Lib.hid (show w.heap.size + 1 ≤ (((w.alloc C).alloc (.cells #[] 34)).alloc C).drew.heap.size from by simp <;> omega)
  have Xd := Lib.hid (show w.heap.size + 1 ≤ (((w.alloc C).alloc C).alloc (.cells #[] 34)).drew.heap.size from by simp)
  have Ra := Lib.hid (show ∀ j, Value.ownBlock (.slice (some ⟨w.heap.size + 1, 0, none⟩) 0 0) = some j → w.heap.size + 1 ≤ j from fun j hj => by simp [Value.ownBlock] at hj; omega)
  have Rd := Lib.hid (show ∀ j, Value.ownBlock (.slice (some ⟨w.heap.size + 1 + 1, 0, none⟩) 0 0) = some j → w.heap.size + 1 ≤ j from fun j hj => by simp [Value.ownBlock] at hj; omega)
  have Nb := Lib.hid (show Value.ownBlock (.slice (some ⟨w.heap.size + 1, 0, none⟩) 0 0) ≠ some (w.heap.size + 1 + 1) from by simp [Value.ownBlock])
  have Nd := Lib.hid (show Value.ownBlock (.slice (some ⟨w.heap.size + 1 + 1, 0, none⟩) 0 0) ≠ some (w.heap.size + 1) from by simp [Value.ownBlock])
  have SN := Lib.hid sn
  clear ow sn z1 z2 z3 hz0 hsh hcl b0
  subst hC
  go_enter Tryz.func76, Tryz.ntmps76
  go_wp2_with fail
  go_region_held3 (fun W => W.cell? ⟨w.heap.size, 0, none⟩ = some (.int .i64 x) ∧ W.cell? ⟨w.heap.size, 1, none⟩ = some (.int .i64 y) ∧ W.cell? ⟨w.heap.size, 2, none⟩ = some (.bool z))
    (first | exact HCL.out _ B0.out | exact HCL.out _ Ba.out | exact HCL.out _ Bb.out | exact HCL.out _ Bc.out | exact HCL.out _ Bd.out | (have := B1.out; exact HCL.out _ this) | (have := B1'.out; exact HCL.out _ this) | (have := B2.out; exact HCL.out _ this) | (have := B1.out.alloc X1.out (.cells #[.int .i64 x, .int .i64 y, .bool z] 34); exact HCL.out _ this))
    (first
      | (refine step_cat (bytes := 24) (base := w.heap.size + 1) encB_len encB_one (Nat.succ_pos 2) rfl (.tmp 9) (.tmp 10) _ rfl Tryz.underlying26 info_conB rfl _ [] rfl Oa.out rfl (H.out.below (HSH.out _ Ba.out)) N1.out.1 N1.out.2 Xa.out ?_; intro v1 w1 hown1 hg1; have X1 := Lib.hid (Nat.le_trans Xa.out hg1.size); have B1 := Lib.hid (Ba.out.grown hg1 Xa.out Ra.out);  have O1 := Lib.hid hown1; clear hown1 hg1)
      | (refine step_cat (bytes := 24) (base := w.heap.size + 1) encB_len encB_one (Nat.succ_pos 2) rfl (.tmp 9) (.tmp 10) _ rfl Tryz.underlying26 info_conB rfl _ [] rfl Ob.out rfl (H.out.below (HSH.out _ Bb.out)) N1.out.1 N1.out.2 Xb.out ?_; intro v1 w1 hown1 hg1; have X1 := Lib.hid (Nat.le_trans Xb.out hg1.size); have B1 := Lib.hid (Bb.out.grown hg1 Xb.out Ra.out); have S1 := Lib.hid (Sb.out.grown hg1 Nb.out); have O1 := Lib.hid hown1; clear hown1 hg1)
      | (refine step_cat (bytes := 24) (base := w.heap.size + 1) encB_len encB_one (Nat.succ_pos 2) rfl (.tmp 9) (.tmp 10) _ rfl Tryz.underlying26 info_conB rfl _ [] rfl Od.out rfl (H.out.below (HSH.out _ Bd.out)) N1.out.1 N1.out.2 Xd.out ?_; intro v1 w1 hown1 hg1; have X1 := Lib.hid (Nat.le_trans Xd.out hg1.size); have B1 := Lib.hid (Bd.out.grown hg1 Xd.out Rd.out); have S1 := Lib.hid (Sd.out.grown hg1 Nd.out); have O1 := Lib.hid hown1; clear hown1 hg1)
      | (refine step_cat (bytes := 24) (base := w.heap.size + 1) encB_len encB_one (Nat.succ_pos 2) rfl (.tmp 11) (.tmp 13) _ rfl Tryz.underlying26 info_conB rfl _ _ rfl O1.out rfl S1.out N2.out.1 N2.out.2 X1.out ?_; intro v2 w2 hown2 hg2; have B2 := Lib.hid (B1.out.grown hg2 X1.out (fun j hj => (O1.out.lt j hj).1)); have O2 := Lib.hid hown2; clear hown2 hg2)
      | (go_loud (refine step_cat (bytes := 24) (base := w.heap.size + 1) encB_len encB_one (Nat.succ_pos 2) rfl (.tmp 11) (.tmp 13) _ rfl Tryz.underlying26 info_conB rfl _ _ rfl (O1.out.alloc _) rfl (SN.out w1 _ rfl) N2.out.1 N2.out.2 (Nat.le_trans X1.out (below_alloc (Below.refl _ w1) _).size) ?_; intro v2 w2 hown2 hg2; have B2 := Lib.hid ((B1.out.alloc X1.out _).grown hg2 (Nat.le_trans X1.out (below_alloc (Below.refl _ w1) _).size) (fun j hj => (O1.out.lt j hj).1)); have O2 := Lib.hid hown2; clear hown2 hg2)))
  all_goals
    have hown2 := O2.out.base_le (base' := w.heap.size) (Nat.le_succ _)
    have HB2 := Lib.hid (HSH.out _ B2.out)
    rw [List.nil_append] at hown2
    obtain ⟨A2, c2, rfl, hs2⟩ := hown2.sl encB_len
    have HS2 := Lib.hid hs2
    have HO2 := Lib.hid hown2
    have hl3 : (xs ++ [(⟨x, y, z⟩ : B3)]).length ≤ 1048578 := by rw [List.length_append, HL.out]; simp; omega
    have B0' := Lib.hid hn
    clear hs2 hown2 O2 HSH HCL SN
    generalize (xs ++ [(⟨x, y, z⟩ : B3)]).length = len3 at *
    by_cases hx : BookOk n xs
    · have HX := Lib.hid hx
      clear hx
      go_wp2_with fail
      refine (specBookingsValid_any A n len cap xs w2 (H.out.below HB2.out) (by omega)).mono ?_
      intro e w3 hp
      obtain ⟨rfl, hb3⟩ := hp.yes HX.out
      have HB3 := Lib.hid (below_trans HB2.out hb3)
      have HS3 := Lib.hid (HS2.out.below hb3)
      have HO3 := Lib.hid (HO2.out.below hb3 (Nat.le_refl _))
      clear hb3 hp
      by_cases hz : BookOk n (xs ++ [⟨x, y, z⟩])
      · obtain ⟨rfl, rfl⟩ : b = true ∧ ys = xs ++ [⟨x, y, z⟩] := by
          rcases HB.out with ⟨rfl, _, rfl⟩ | ⟨_, hJ, _⟩
          · exact ⟨rfl, rfl⟩
          · exact absurd ⟨HX.out, hz⟩ hJ
        have HZ := Lib.hid hz
        clear hz
        go_wp2_with fail
        refine (specBookingsValid_any A2 n len3 c2 _ w3 HS3.out (by omega)).mono ?_
        intro e w5 hp
        obtain ⟨rfl, hb5⟩ := hp.yes HZ.out
        have HB5 := Lib.hid (below_trans HB3.out hb5)
        have HO5 := Lib.hid (HO3.out.below hb5 (Nat.le_refl _))
        clear hb5 hp
        go_wp2
        go_ret2
        exact ⟨_, rfl, HO5.out, HB5.out⟩
      · obtain ⟨rfl, rfl⟩ : b = false ∧ ys = [] := by
          rcases HB.out with ⟨_, hJ, _⟩ | ⟨rfl, _, rfl⟩
          · exact absurd hJ.2 hz
          · exact ⟨rfl, rfl⟩
        have HZ := Lib.hid hz
        clear hz
        go_wp2_with fail
        refine (specBookingsValid_any A2 n len3 c2 _ w3 HS3.out (by omega)).mono ?_
        intro e w5 hp
        obtain ⟨rfl, hb5⟩ := hp.no HZ.out
        have HB5 := Lib.hid (below_trans HB3.out hb5)
        clear hb5 hp
        go_wp2
        go_ret2
        exact ⟨_, rfl, own_new w5 _ _ HB5.out.size encB_len [] #[] rfl (by simp) rfl, below_alloc HB5.out _⟩
    · obtain ⟨rfl, rfl⟩ : b = false ∧ ys = [] := by
        rcases HB.out with ⟨_, hJ, _⟩ | ⟨rfl, _, rfl⟩
        · exact absurd hJ.1 hx
        · exact ⟨rfl, rfl⟩
      go_wp2_with fail
      refine (specBookingsValid_any A n len cap xs w2 (H.out.below HB2.out) (by omega)).mono ?_
      intro e w3 hp
      obtain ⟨rfl, hb3⟩ := hp.no hx
      have HB3 := Lib.hid (below_trans HB2.out hb3)
      clear hb3 hp
      go_wp2
      go_ret2
      exact ⟨_, rfl, own_new w3 _ _ HB3.out.size encB_len [] #[] rfl (by simp) rfl, below_alloc HB3.out _⟩
end Go.Proofs.YtgjllminidlolaaGreatDoor
/- Contracts: l92Bookings: a number of legs and bookings. -/
set_option linter.unusedVariables false
namespace Go.Proofs.YtgjllminidlolaaGreatDoor
open Go.RowKit

theorem grown_alloc {w W : World} {row : Option Nat} (h : w.grownBy W row) (o : Obj) : w.grownBy (W.alloc o) row := grown_below h (below_alloc (Below.refl _ W) o)
theorem grown_undrew {w W : World} {row : Option Nat} (h : w.drew.grownBy W row) : w.grownBy W row := ⟨h.os, h.tape, h.output, h.size, h.block⟩
/-- A small literal slice that a call has laid, behind a pick. -/
theorem lit_at {w w' : World} {R ty : Nat} (xs : List Int) (cs : Array Value) (hcs : cs.toList = xs.flatMap encI) (hm : xs.length ≤ 8) (hg : (w.alloc (.cells cs ty)).grownBy w' (some R)) (hR : R < w.heap.size) {x : Nat} (hx : x < xs.length) :
    ∃ z, w'.cell? ⟨w.heap.size, x, none⟩ = some (.int .i64 z) ∧ z ∈ xs := by
  have h1 := own_new (enc := encI) (k := 1) w ty w.heap.size (Nat.le_refl _) encI_len xs cs hcs (by unfold maxLen; omega) rfl
  have h2 := OwnE.apart h1 hg (.inr fun e => by injection e with e; have e : w.heap.size = R := e; omega)
  exact ⟨xs[x], OwnE.cell1 h2 (List.getElem?_eq_getElem hx), List.getElem_mem hx⟩
theorem flatB_setA : ∀ (xs : List B3) (j : Nat) (p : B3) (x : Int), xs[j]? = some p → (xs.flatMap encB).set (j * 3) (.int .i64 x) = (xs.set j ⟨x, p.b, p.c⟩).flatMap encB
  | [], _, _, _, h => by simp at h
  | q :: xs, 0, p, x, h => by
    have e : q = p := by simpa using h
    subst e
    simp [encB]
  | q :: xs, j + 1, p, x, h => by
    have ih := flatB_setA xs j p x (by simpa using h)
    have e0 : (j + 1) * 3 = j * 3 + 1 + 1 + 1 := by omega
    simp only [List.flatMap_cons, List.set_cons_succ, ← ih, encB, List.cons_append, List.nil_append, e0]
theorem flatB_setB : ∀ (xs : List B3) (j : Nat) (p : B3) (x : Int), xs[j]? = some p → (xs.flatMap encB).set (j * 3 + 1) (.int .i64 x) = (xs.set j ⟨p.a, x, p.c⟩).flatMap encB
  | [], _, _, _, h => by simp at h
  | q :: xs, 0, p, x, h => by
    have e : q = p := by simpa using h
    subst e
    simp [encB]
  | q :: xs, j + 1, p, x, h => by
    have ih := flatB_setB xs j p x (by simpa using h)
    have e0 : (j + 1) * 3 + 1 = j * 3 + 1 + 1 + 1 + 1 := by omega
    simp only [List.flatMap_cons, List.set_cons_succ, ← ih, encB, List.cons_append, List.nil_append, e0]
/-- One cell of an own row of three-cell structs is written. -/
theorem ownB_one {w : World} {base ty g cap n : Nat} {xs ys : List B3} (h : OwnE 3 encB ty base w (.slice (some ⟨g, 0, none⟩) n cap) xs) (hn : xs.length = n) {j : Nat} (x : Int) (hy : (xs.flatMap encB).set j (.int .i64 x) = ys.flatMap encB) (hl : ys.length = xs.length) :
    OwnE 3 encB ty base (w.setCell ⟨g, j, none⟩ (.int .i64 x)) (.slice (some ⟨g, 0, none⟩) n cap) ys ∧ w.grownBy (w.setCell ⟨g, j, none⟩ (.int .i64 x)) (some g) := by
  subst hn
  have h1 := World.ownsRow.stored h j (.int .i64 x)
  refine ⟨?_, h1.2⟩
  unfold OwnE
  rw [hl, ← hy]
  exact h1.1

/-- A draw under way: the reader and a slice of its own. -/
def DGB (w : World) (R m : Nat) (v : Value) (xs : List B3) (W : World) : Prop :=
  R < w.heap.size ∧ RdAt W R m ∧ w.grownBy W (some R) ∧ OwnE 3 encB 34 w.heap.size W v xs
theorem DGB.own_ne {w W : World} {R m : Nat} {v : Value} {xs : List B3} (h : DGB w R m v xs W) : v.ownBlock = none ∨ v.ownBlock ≠ some R := by
  by_cases e : v.ownBlock = some R
  · have := (h.2.2.2.lt R e).1
    have := h.1
    omega
  · exact .inr e
theorem DGB.pick {w W W' : World} {R m m' : Nat} {v : Value} {xs : List B3} (h : DGB w R m v xs W) (hr : RdAt W' R m') (hg : W.grownBy W' (some R)) : DGB w R m' v xs W' :=
  ⟨h.1, hr, grown_trans h.2.2.1 hg, OwnE.apart h.2.2.2 hg h.own_ne⟩
theorem DGB.alloc {w W : World} {R m : Nat} {v : Value} {xs : List B3} (h : DGB w R m v xs W) (o : Obj) : DGB w R m v xs (W.alloc o) :=
  ⟨h.1, h.2.1.below (below_alloc (Below.refl _ W) o) (Nat.le_refl _), grown_alloc h.2.2.1 o, OwnE.alloc h.2.2.2 o⟩
theorem DGB.drew {w W : World} {R m : Nat} {v : Value} {xs : List B3} (h : DGB w R m v xs W) : DGB w R m v xs W.drew := ⟨h.1, h.2.1, ⟨h.2.2.1.os, h.2.2.1.tape, h.2.2.1.output, h.2.2.1.size, h.2.2.1.block⟩, h.2.2.2⟩
theorem DGB.size {w W : World} {R m : Nat} {v : Value} {xs : List B3} (h : DGB w R m v xs W) : w.heap.size ≤ W.heap.size := h.2.2.1.size
theorem DGB.to {w W W' : World} {R m : Nat} {v v' : Value} {xs ys : List B3} (h : DGB w R m v xs W) (hg : W.grownBy W' v.ownBlock) (ho : OwnE 3 encB 34 w.heap.size W' v' ys) : DGB w R m v' ys W' :=
  ⟨h.1, h.2.1.grown hg (fun j hj => by have := (h.2.2.2.lt j hj).1; have := h.1; omega), grown_own h.2.2.1 hg (fun j hj => (h.2.2.2.lt j hj).1), ho⟩
theorem DGB.below {w W W' : World} {R m : Nat} {v : Value} {xs : List B3} (h : DGB w R m v xs W) (hb : Below W.heap.size W W') : DGB w R m v xs W' :=
  ⟨h.1, h.2.1.below hb (Nat.le_refl _), grown_below h.2.2.1 hb, h.2.2.2.below hb (Nat.le_refl _)⟩
/-- Another slice of the draw's own takes the place of the one before. -/
theorem DGB.next {w W W' : World} {R m : Nat} {v v' : Value} {xs ys : List B3} (h : DGB w R m v xs W) (hb : Below W.heap.size W W') (ho : OwnE 3 encB 34 W.heap.size W' v' ys) : DGB w R m v' ys W' :=
  ⟨h.1, h.2.1.below hb (Nat.le_refl _), grown_below h.2.2.1 hb, ho.base_le h.size⟩
/-- How l92Bookings ends. -/
def DrawnK (w : World) (R m : Nat) (e : Ending) (w' : World) : Prop :=
  ∃ n v xs, e = .returned (.tuple #[.int .i64 n, v]) ∧ 1 ≤ n ∧ n ≤ 6 ∧ xs.length ≤ 12 ∧ DGB w R m v xs w'
theorem DrawnK.of {w W : World} {R m : Nat} {v : Value} {xs : List B3} {n : Int} (h : DGB w R m v xs W) (h1 : 1 ≤ n) (h2 : n ≤ 6) (hl : xs.length ≤ 12) {m' : Nat} (hm : m ≤ m') : DrawnK w R m' (.returned (.tuple #[.int .i64 n, v])) W :=
  ⟨n, v, xs, rfl, h1, h2, hl, h.1, h.2.1.mono hm, h.2.2⟩

set_option maxRecDepth 20000 in
set_option maxHeartbeats 6400000 in
theorem l92Bookings_any (R m : Nat) (w : World) (h : RdAt w R m) (hm : m ≤ 50000) :
    Calls Tryz.prog 42 #[.pointer (some ⟨R, 0, none⟩)] w (DrawnK w R (m + 40)) := by
  have hRw := h.lt
  have H := Lib.hid h
  clear h
  go_enter Tryz.func42, Tryz.ntmps42
  go_wp2_with fail
  refine (pick_any R m 6 w H.out (by omega) (by omega)).mono ?_
  rintro e w1 ⟨x1, rfl, a0, a1, -, hr, hg⟩
  have a1 := a1 (by omega)
  have hsz1 := hg.size
  have D1 : Hid (DGB w R (m + 1) (.slice (some ⟨w1.heap.size, 0, none⟩) 0 0) [] (w1.alloc (.cells #[] 34))) :=
    ⟨hRw, hr.below (below_alloc (Below.refl _ w1) _) (Nat.le_refl _), grown_alloc hg _, own_new (enc := encB) (k := 3) w1 34 w.heap.size hsz1 encB_len [] #[] rfl (by simp) rfl⟩
  clear hr hg H
  go_wp2_with fail
  refine (pick_any R (m + 1) 13 _ D1.out.2.1 (by omega) (by omega)).mono ?_
  rintro e w2 ⟨n, rfl, n0, n1, -, hr, hg⟩
  have n1 := n1 (by omega)
  obtain ⟨n, rfl⟩ : ∃ i : Nat, n = i := ⟨n.toNat, by omega⟩
  have D2 := Lib.hid (D1.out.pick hr hg)
  clear hr hg D1
  go_wp2_with fail
  go_loopw [7, 5, 8, 9, 10] (fun i s _ _ _ wr => ∃ (k : Nat) (xs : List B3), k ≤ n ∧ i = .int .i64 k ∧ xs.length ≤ k ∧ DGB w R (m + 2 + 3 * k) s xs wr) (fun i _ _ _ _ _ => n - (intOf i).toNat)
  case atStart => exact ⟨0, [], by omega, rfl, by simp, D2.out⟩
  case round =>
    obtain ⟨k, xs, hk, rfl, hl, hd⟩ := hrel
    have HD := Lib.hid hd
    clear hd D2
    by_cases hlt : k < n
    · go_wp2_with fail
      refine (pick_any R (m + 2 + 3 * k) (1 + x1) wr HD.out.2.1 (by omega) (by omega)).mono ?_
      rintro e w3 ⟨f, rfl, b0, b1, -, hr, hg⟩
      have b1 := b1 (by omega)
      have D3 := Lib.hid (HD.out.pick hr hg)
      clear hr hg HD
      go_wp2_with fail
      refine (pick_any R (m + 2 + 3 * k + 1) (1 + x1 - f) w3 D3.out.2.1 (by omega) (by omega)).mono ?_
      rintro e w4 ⟨y, rfl, c0, c1, -, hr, hg⟩
      have c1 := c1 (by omega)
      have D4 := Lib.hid (D3.out.pick hr hg)
      clear hr hg D3
      go_wp2_with fail
      refine (pick_any R (m + 2 + 3 * k + 2) 5 w4 D4.out.2.1 (by omega) (by omega)).mono ?_
      rintro e w5 ⟨z, rfl, d0, d1, -, hr, hg⟩
      have d1 := d1 (by omega)
      have D5 := Lib.hid (D4.out.pick hr hg)
      clear hr hg D4
      obtain ⟨zb, hzb⟩ : ∃ zb : Bool, zb = decide (1 < z) := ⟨_, rfl⟩
      have HZB := Lib.hid hzb.symm
      clear hzb
      obtain ⟨A, c, rfl, -, hlc⟩ := D5.out.2.2.2.slc encB_len rfl
      by_cases hj : BJoinOk (1 + x1) xs [⟨f, f + 1 + y, zb⟩]
      · have HJ := Lib.hid hj
        clear hj
        go_wp2_with fail
        rw [HZB.out]
        refine (specSeatsBook_any A (1 + x1) xs.length c xs f (f + 1 + y) zb _ true w5 (sl_of_own_at encB_len D5.out.2.2.2 rfl) (by omega) (.inl ⟨rfl, HJ.out, rfl⟩)).mono ?_
        rintro e w6 ⟨v6, rfl, hown6, hb6⟩
        have D6 := Lib.hid (D5.out.next hb6 hown6)
        clear hown6 hb6 D5
        go_wp2_with fail
        go_roundw
        case rel => exact ⟨k + 1, xs ++ [⟨f, f + 1 + y, zb⟩], by omega, by go_num, by simp; omega, by have := D6.out; rw [show m + 2 + 3 * k + 2 + 1 = m + 2 + 3 * (k + 1) by omega] at this; exact this⟩
        case measure => simp [intOf]; omega
      · have HJ := Lib.hid hj
        clear hj
        go_wp2_with fail
        rw [HZB.out]
        refine (specSeatsBook_any A (1 + x1) xs.length c xs f (f + 1 + y) zb _ false w5 (sl_of_own_at encB_len D5.out.2.2.2 rfl) (by omega) (.inr ⟨rfl, HJ.out, rfl⟩)).mono ?_
        rintro e w6 ⟨v6, rfl, hown6, hb6⟩
        have D6 := Lib.hid (D5.out.below hb6)
        clear hown6 hb6 D5
        go_wp2_with fail
        go_roundw
        case rel => exact ⟨k + 1, xs, by omega, by go_num, by omega, by have := D6.out; rw [show m + 2 + 3 * k + 2 + 1 = m + 2 + 3 * (k + 1) by omega] at this; exact this⟩
        case measure => simp [intOf]; omega
    · have hkn : k = n := by omega
      subst hkn
      clear hlt hk
      obtain ⟨A, c, rfl, -, hkc⟩ := HD.out.2.2.2.slc encB_len rfl
      generalize hlen : xs.length = len at *
      have HL := Lib.hid hlen
      clear hlen
      by_cases hn0 : len = 0
      · subst hn0
        go_wp2_with fail
        go_ret2
        exact DrawnK.of HD.out (by omega) (by omega) (by rw [HL.out]; omega) (by omega)
      · have hn1 : 0 < len := by omega
        obtain ⟨g, rfl, -, hg0, hg1, hfz⟩ := HD.out.2.2.2.form (by rw [HL.out]; omega)
        go_wp2_with fail
        refine (pick_any R (m + 2 + 3 * k) 40 wr HD.out.2.1 (by omega) (by omega)).mono ?_
        rintro e w3 ⟨x2, rfl, b0, b1, -, hr, hg⟩
        have D3 := Lib.hid (HD.out.pick hr hg)
        clear hr hg HD b1 hfz hg1
        by_cases e1 : x2 = 0
        · have hx0 : xs[0]? = some (xs[0]'(by rw [HL.out]; omega)) := List.getElem?_eq_getElem (by rw [HL.out]; omega)
          generalize (xs[0]'(by rw [HL.out]; omega)) = p0 at *
          have HX0 := Lib.hid hx0
          have hfz := OwnE.frozen D3.out.2.2.2
          obtain ⟨q0, -, -⟩ := OwnE.cellB D3.out.2.2.2 (j := 0) (x := p0.a) (y := p0.b) (z := p0.c) hx0
          have hy : ∀ W', DGB w R (m + 2 + 3 * k + 2) (.slice (some ⟨g, 0, none⟩) len c) xs W' → W'.cell? ⟨g, 0, none⟩ = some (.int .i64 p0.a) ∧ W'.cell? ⟨g, 1, none⟩ = some (.int .i64 p0.b) ∧ ∀ j, W'.frozen? ⟨g, j, none⟩ = false := fun W' h => by
            have hfz := OwnE.frozen h.2.2.2
            obtain ⟨q0, q1, -⟩ := OwnE.cellB h.2.2.2 (j := 0) (x := p0.a) (y := p0.b) (z := p0.c) HX0.out
            exact ⟨by simpa using q0, by simpa using q1, hfz⟩
          have HY := Lib.hid hy
          clear hy hx0
          simp only [Nat.zero_mul] at q0
          go_wp2_with fail
          have hLb : ∀ (W W' : World) (x : Int), R < W.heap.size → (W.alloc (.cells #[.int .i64 p0.a, .int .i64 (1 + x1 + 1)] 3)).grownBy W' (some R) → 0 ≤ x → x < 2 → ∃ (n : Nat) (z : Int), x = n ∧ n < 2 ∧ W'.cell? ⟨W.heap.size, n, none⟩ = some (.int .i64 z) ∧ z ∈ ([p0.a, 1 + x1 + 1] : List Int) := fun W W' x h1 h2 h3 h4 => by
            obtain ⟨x, rfl⟩ : ∃ i : Nat, x = i := ⟨x.toNat, by omega⟩
            obtain ⟨z, hz, hzm⟩ := lit_at [p0.a, 1 + x1 + 1] _ rfl (by simp) h2 h1 (x := x) (by simp; omega)
            exact ⟨x, z, rfl, by omega, hz, hzm⟩
          have HLb := Lib.hid hLb
          have hR3 := Nat.lt_of_lt_of_le hRw D3.out.size
          have D3d := Lib.hid D3.out.drew
          have xw : IntKind.i64.wrap (1 + x1 + 1) = 1 + x1 + 1 := IntWalk.i64_in _ (by omega)
          clear hLb
          go_region_with (first
            | (go_at_call 32; refine (pick_any R (m + 2 + 3 * k + 1) 2 _ (D3.out.alloc _).drew.2.1 (by omega) (by omega)).mono ?_; rintro e w4 ⟨x3, rfl, c0, c1, -, hr, hg⟩; obtain ⟨x3, z, rfl, hx3, hz, hzm⟩ := HLb.out _ _ x3 hR3 (grown_undrew hg) c0 (c1 (by omega)); have D4 := Lib.hid ((D3.out.alloc _).drew.pick hr hg); obtain ⟨q3, q4, hfz4⟩ := HY.out _ D4.out; clear c0 c1 hr hg hzm)
            | (go_at_call 32; refine (pick_any R (m + 2 + 3 * k + 1) 2 _ D3d.out.2.1 (by omega) (by omega)).mono ?_; rintro e w4 ⟨x3, rfl, c0, c1, -, hr, hg⟩; have D4' := D3d.out.pick hr hg; obtain ⟨x3, z, rfl, hx3, hz, hzm⟩ := HLb.out w4 _ x3 (Nat.lt_of_lt_of_le hRw D4'.size) ⟨rfl, rfl, rfl, Nat.le_refl _, fun _ _ _ => rfl⟩ c0 (c1 (by omega)); have D4 := Lib.hid (D4'.alloc (.cells #[.int .i64 p0.a, .int .i64 (1 + x1 + 1)] 3)); obtain ⟨q3, q4, hfz4⟩ := HY.out _ D4.out; obtain ⟨q5, q6, hfz5⟩ := HY.out _ D4'; clear c0 c1 hr hg hzm D4')
            | fail)
          all_goals
            have ht := ownB_one D4.out.2.2.2 HL.out (j := 1) z (flatB_setB xs 0 p0 z HX0.out) (by simp)
            have D5 := Lib.hid (D4.out.to ht.2 ht.1)
            clear D4 ht
            go_wp2_with fail
            go_ret2
            exact DrawnK.of D5.out (by omega) (by omega) (by simp; rw [HL.out]; omega) (by omega)
        by_cases e0 : x2 = 1
        · have hx0 : xs[0]? = some (xs[0]'(by rw [HL.out]; omega)) := List.getElem?_eq_getElem (by rw [HL.out]; omega)
          generalize (xs[0]'(by rw [HL.out]; omega)) = p0 at *
          have ht := ownB_one D3.out.2.2.2 HL.out (j := 0) (-1) (flatB_setA xs 0 p0 (-1) hx0) (by simp)
          have D5 := Lib.hid (D3.out.to ht.2 ht.1)
          have hfz := OwnE.frozen D3.out.2.2.2
          obtain ⟨q0, q1, q2⟩ := OwnE.cellB D3.out.2.2.2 (j := 0) (x := p0.a) (y := p0.b) (z := p0.c) hx0
          simp only [Nat.zero_mul, Nat.zero_add] at q0 q1 q2
          have HX0 := Lib.hid hx0
          clear D3 ht hx0
          go_wp2_with fail
          go_ret2
          exact DrawnK.of D5.out (by omega) (by omega) (by simp; rw [HL.out]; omega) (by omega)
        · go_wp2_with fail
          go_ret2
          exact DrawnK.of D3.out (by omega) (by omega) (by rw [HL.out]; omega) (by omega)
end Go.Proofs.YtgjllminidlolaaGreatDoor
/- Contracts: the seats of a coach: seats, free, take, seatsOf. -/
set_option linter.unusedVariables false
namespace Go.Proofs.YtgjllminidlolaaGreatDoor
open Go.RowKit

def baseOf (k : Bool) : Nat := if k = true then 0 else 4
/-- Block g holds the seats of a coach: for each kind and seat, a set of legs. -/
def CoachAt (w : World) (g : Nat) (S : Bool → Nat → Nat) : Prop :=
  g < w.heap.size ∧ (∀ j, w.frozen? ⟨g, j, none⟩ = false) ∧ ∀ (k : Bool) (s : Nat), s < capOf k → w.cell? ⟨g, baseOf k + s, none⟩ = some (.int .u64 (S k s)) ∧ S k s < 1024
theorem CoachAt.below {w w' : World} {g : Nat} {S : Bool → Nat → Nat} (h : CoachAt w g S) (hb : Below w.heap.size w w') : CoachAt w' g S :=
  ⟨Nat.lt_of_lt_of_le h.1 hb.size, fun j => (hb.frozen (p := ⟨g, j, none⟩) h.1).trans (h.2.1 j), fun k s hs => ⟨(hb.cell (p := ⟨g, _, none⟩) h.1).trans (h.2.2 k s hs).1, (h.2.2 k s hs).2⟩⟩

section
variable {P : Program} {fs : Array Field}
/-- 'x.(T)' with ok, T a struct: x holds a T. -/
theorem run_assert_yes (t xT : TypeId) (v : Value) (h : P.underlying t = some (.struct fs)) (w : World) : (Instr.typeAssert (.iface t v) xT t true).run P w = .ok (.tuple #[v, .bool true]) w := by
  simp [Instr.typeAssert, run_underlying h, go_sem, Result.andThen]
/-- The same, where x holds another type. -/
theorem run_assert_no (t a xT : TypeId) (v z : Value) (h : P.underlying a = some (.struct fs)) (hne : t ≠ a) (hz : (P.info? a).map (·.zero) = some (some z)) (w : World) :
    (Instr.typeAssert (.iface t v) xT a true).run P w = .ok (.tuple #[z, .bool false]) w := by
  obtain ⟨j, hj, hz'⟩ := Option.map_eq_some_iff.1 hz
  simp [Instr.typeAssert, run_underlying h, hne, zeroValue, typeInfo, hj, hz', go_sem, Result.andThen]
end
theorem asIn (v : Value) (w : World) : (Instr.typeAssert (.iface 137 v) 80 137 true).run Tryz.prog w = .ok (.tuple #[v, .bool true]) w := run_assert_yes _ _ _ Tryz.underlying137 w
theorem asOut (v : Value) (w : World) : (Instr.typeAssert (.iface 138 v) 80 138 true).run Tryz.prog w = .ok (.tuple #[v, .bool true]) w := run_assert_yes _ _ _ Tryz.underlying138 w
theorem asNot (v : Value) (w : World) : (Instr.typeAssert (.iface 138 v) 80 137 true).run Tryz.prog w = .ok (.tuple #[.agg #[.int .u64 0], .bool false]) w :=
  run_assert_no _ _ _ _ _ Tryz.underlying137 (by decide) (by kernel_rfl) w
attribute [local go_sem] asIn asOut asNot

theorem or_nat (a b : Nat) (ha : a < 1024) (hb : b < 1024) : bits .or .u64 (a : Int) (b : Int) = ((a ||| b : Nat) : Int) := by
  have e : bits .or .u64 (a : Int) (b : Int) = IntKind.u64.wrap (((BitVec.ofInt 64 (a : Int)) ||| (BitVec.ofInt 64 (b : Int))).toNat : Int) := rfl
  rw [e]
  have e2 : ((BitVec.ofInt 64 (a : Int)) ||| (BitVec.ofInt 64 (b : Int))).toNat = a ||| b := by
    rw [BitVec.toNat_or, BitVec.ofInt_natCast, BitVec.ofInt_natCast, BitVec.toNat_ofNat, BitVec.toNat_ofNat, Nat.mod_eq_of_lt (by omega), Nat.mod_eq_of_lt (by omega)]
  rw [e2]
  have hlt : a ||| b < 2 ^ 10 := Nat.or_lt_two_pow ha hb
  have e3 : IntKind.u64.wrap ((a ||| b : Nat) : Int) = ((a ||| b : Nat) : Int) % 18446744073709551616 := by simp [IntKind.wrap, IntKind.bits, IntKind.signed]
  rw [e3]
  omega
set_option maxRecDepth 20000 in
set_option maxHeartbeats 800000 in
theorem with_any (a b : Nat) (w : World) (ha : a < 1024) (hb : b < 1024) :
    Calls Tryz.prog 84 #[.int .u64 a, .int .u64 b] w (Same (.int .u64 ((a ||| b : Nat) : Int)) w) := by
  have e := or_nat a b ha hb
  go_enter Tryz.func84, Tryz.ntmps84
  go_wp2
  go_ret
  exact ⟨rfl, rfl⟩

/-- The seat s of the kind k taken on the legs l too. -/
def takeS (S : Bool → Nat → Nat) (k : Bool) (s l : Nat) : Bool → Nat → Nat := fun k' s' => if k' = k ∧ s' = s then S k s ||| l else S k' s'
/-- How a call that takes a seat ends. -/
def TookW (w : World) (g : Nat) (S : Bool → Nat → Nat) (w' : World) : Prop := CoachAt w' g S ∧ w.grownBy w' (some g)
def Took (w : World) (g : Nat) (S : Bool → Nat → Nat) (e : Ending) (w' : World) : Prop := e = .returned (.tuple #[]) ∧ TookW w g S w'
theorem coach_take {w W : World} {g : Nat} {S : Bool → Nat → Nat} (h : CoachAt w g S) (hb : Below w.heap.size w W) (k : Bool) (s l : Nat) (hs : s < capOf k) (hl : l < 1024) :
    TookW w g (takeS S k s l) (W.setCell ⟨g, baseOf k + s, none⟩ (.int .u64 ((S k s ||| l : Nat) : Int))) := by
  have h' := h.below hb
  refine ⟨⟨by simpa using h'.1, fun j => by rw [World.frozen?_setCell]; exact h'.2.1 j, fun k' s' hs' => ?_⟩, hb.os, hb.tape, hb.output, by simpa using hb.size, fun j hj hne => ?_⟩
  · by_cases e : k' = k ∧ s' = s
    · obtain ⟨rfl, rfl⟩ := e
      refine ⟨?_, ?_⟩
      · have := World.cell?_setCell_same (w := W) (a := ⟨g, baseOf k' + s', none⟩) (v := .int .u64 ((S k' s' ||| l : Nat) : Int)) (h'.2.2 k' s' hs').1
        simpa [takeS] using this
      · simp only [takeS, and_self, if_true]
        exact Nat.or_lt_two_pow (n := 10) (h'.2.2 k' s' hs').2 hl
    · have hne : baseOf k + s ≠ baseOf k' + s' := by
        intro hh
        apply e
        cases k <;> cases k' <;> simp [baseOf, capOf] at * <;> omega
      have := World.cell?_setCell_other (w := W) (a := ⟨g, baseOf k + s, none⟩) (b := ⟨g, baseOf k' + s', none⟩) (v := .int .u64 ((S k s ||| l : Nat) : Int)) (by intro hh; injection hh with h1 h2; exact hne h2)
      simp only [takeS, if_neg e]
      exact ⟨this.trans (h'.2.2 k' s' hs').1, (h'.2.2 k' s' hs').2⟩
  · exact (Below.heap_setCell W _ _ j (fun e => hne (by rw [e]))).trans (hb.block j hj)

def tickIn (v : Int) : Value := .iface 137 (.agg #[.int .u64 v])
set_option maxRecDepth 20000 in
set_option maxHeartbeats 800000 in
theorem seatsIn_any (g : Nat) (v : Int) (w : World) :
    Calls Tryz.prog 82 #[.pointer (some ⟨g, 0, none⟩), .iface 137 (.agg #[.int .u64 v])] w (Same (.slice (some ⟨g, 0, none⟩) 4 4) w) := by
  go_enter Tryz.func82, Tryz.ntmps82
  go_wp2
  go_ret
  exact ⟨rfl, rfl⟩
set_option maxRecDepth 20000 in
set_option maxHeartbeats 800000 in
theorem seatsOfIn_any (v : Int) (w : World) :
    Calls Tryz.prog 45 #[.iface 137 (.agg #[.int .u64 v])] w (Same (.int .i64 4) w) := by
  go_enter Tryz.func45, Tryz.ntmps45
  go_wp2
  go_ret
  exact ⟨rfl, rfl⟩
set_option maxRecDepth 20000 in
set_option maxHeartbeats 3200000 in
theorem freeIn_any (g f t : Nat) (o : Int) (S : Bool → Nat → Nat) (w : World) (h : CoachAt w g S) (hf : f ≤ t) (ht : t ≤ 7) :
    Calls Tryz.prog 46 #[.pointer (some ⟨g, 0, none⟩), .iface 137 (.agg #[.int .u64 (legs f t)]), .int .i64 o] w (OnlyB ((0 ≤ o ∧ o < 4) ∧ S true o.toNat &&& legs f t = 0) w) := by
  have H := Lib.hid h
  clear h
  by_cases h0 : 0 ≤ o
  rotate_left
  · have d0 : decide (0 ≤ o) = false := by simpa using h0
    have HN := Lib.hid h0
    clear h0
    go_enter Tryz.func46, Tryz.ntmps46
    go_wp2_with fail
    refine (seatsIn_any g _ w).mono ?_
    rintro e w2 ⟨rfl, rfl⟩
    go_wp2_with fail
    go_quiet (fail)
    go_wp2_with fail
    go_ret
    exact onlyB_false (fun hh => by have := HN.out; omega) (bl_drewN (Below.refl _ _) _)
  by_cases h1 : o < 4
  rotate_left
  · have d0 : decide (o < 4) = false := by simpa using h1
    have HN := Lib.hid h1
    clear h1
    go_enter Tryz.func46, Tryz.ntmps46
    go_wp2_with fail
    refine (seatsIn_any g _ w).mono ?_
    rintro e w2 ⟨rfl, rfl⟩
    go_wp2_with fail
    go_quiet (fail)
    go_wp2_with fail
    go_ret
    exact onlyB_false (fun hh => by have := HN.out; omega) (bl_drewN (Below.refl _ _) _)
  obtain ⟨s, rfl⟩ : ∃ s : Nat, o = s := ⟨o.toNat, by omega⟩
  obtain ⟨hc, hS⟩ := H.out.2.2 true s (by simp [capOf]; omega)
  have HC := Lib.hid (fun (W : World) (hW : Below w.heap.size w W) => ((H.out.below hW).2.2 true s (by simp [capOf]; omega)).1)
  have HL := Lib.hid (legs_lt f t ht)
  have HK := Lib.hid hS
  have e0 : ((s : Int).toNat) = s := rfl
  rw [e0]
  simp only [baseOf, if_true, Nat.zero_add] at hc HC
  clear hS e0 hf ht
  generalize S true s = q at *
  generalize legs f t = l at *
  have i0 : (0 : Int) ≤ (s : Int) := by omega
  have hr : (0 ≤ (s : Int) ∧ (s : Int) < 4) := ⟨h0, h1⟩
  have HR := Lib.hid hr
  clear hr
  have HBd := Lib.hid (below_drew (Below.refl w.heap.size w))
  by_cases hm : q &&& l = 0
  · have HM := Lib.hid (show ¬ (q &&& l ≠ 0) from fun h => h hm)
    have HM2 := Lib.hid hm
    clear hm H
    go_enter Tryz.func46, Tryz.ntmps46
    go_wp2_with fail
    refine (seatsIn_any g _ w).mono ?_
    rintro e w2 ⟨rfl, rfl⟩
    go_wp2_with fail
    go_region_held3 (fun w' => w'.cell? ⟨g, s, none⟩ = some (.int .u64 (q : Int))) (first | exact hc | exact HC3.out | go_keep)
      (first | (go_at_call 246; refine (inLegs_any _ _).mono ?_; rintro e w3 ⟨rfl, hb3⟩; have HB3 := Lib.hid (below_trans HBd.out hb3); have HC3 := Lib.hid (HC.out _ HB3.out); clear hb3) | (go_at_call 83; (with_reducible_and_instances refine (meets_any q l _ HK.out HL.out).mono ?_); intro e w4 hp; obtain ⟨rfl, rfl⟩ := hp.no HM.out; clear hp) | fail)
    go_wp2_with fail
    go_ret
    exact onlyB_true ⟨HR.out, HM2.out⟩ HB3.out
  · have HM := Lib.hid (show q &&& l ≠ 0 from hm)
    clear hm H
    go_enter Tryz.func46, Tryz.ntmps46
    go_wp2_with fail
    refine (seatsIn_any g _ w).mono ?_
    rintro e w2 ⟨rfl, rfl⟩
    go_wp2_with fail
    go_region_held3 (fun w' => w'.cell? ⟨g, s, none⟩ = some (.int .u64 (q : Int))) (first | exact hc | exact HC3.out | go_keep)
      (first | (go_at_call 246; refine (inLegs_any _ _).mono ?_; rintro e w3 ⟨rfl, hb3⟩; have HB3 := Lib.hid (below_trans HBd.out hb3); have HC3 := Lib.hid (HC.out _ HB3.out); clear hb3) | (go_at_call 83; (with_reducible_and_instances refine (meets_any q l _ HK.out HL.out).mono ?_); intro e w4 hp; obtain ⟨rfl, rfl⟩ := hp.yes HM.out; clear hp) | fail)
    go_wp2_with fail
    go_ret
    exact onlyB_false (fun hh => HM.out hh.2) HB3.out

set_option maxRecDepth 20000 in
set_option maxHeartbeats 3200000 in
theorem takeIn_any (g f t s : Nat) (S : Bool → Nat → Nat) (w : World) (h : CoachAt w g S) (hf : f ≤ t) (ht : t ≤ 7) (hs : s < 4) :
    Calls Tryz.prog 47 #[.pointer (some ⟨g, 0, none⟩), .iface 137 (.agg #[.int .u64 (legs f t)]), .int .i64 s] w (Took w g (takeS S true s (legs f t))) := by
  obtain ⟨hc, hS⟩ := h.2.2 true s (by simp [capOf]; omega)
  have HC := Lib.hid (fun (W : World) (hW : Below w.heap.size w W) => ((h.below hW).2.2 true s (by simp [capOf]; omega)).1)
  have HF := Lib.hid (fun (W : World) (hW : Below w.heap.size w W) => (h.below hW).2.1 (s))
  have HL := Lib.hid (legs_lt f t ht)
  have HK := Lib.hid hS
  have HT := Lib.hid (fun (W : World) (hW : Below w.heap.size w W) => coach_take h hW true s (legs f t) (by simp [capOf]; omega) HL.out)
  simp only [baseOf, if_true, Nat.zero_add] at hc HC HT
  clear hS hf ht h
  generalize takeS S true s (legs f t) = S' at *
  generalize S true s = q at *
  generalize legs f t = l at *
  have i0 : (0 : Int) ≤ (s : Int) := by omega
  have i1 : (s : Int) < 4 := by omega
  have HBd := Lib.hid (below_drew (Below.refl w.heap.size w))
  go_enter Tryz.func47, Tryz.ntmps47
  go_wp2_with fail
  refine (seatsIn_any g _ w).mono ?_
  rintro e w2 ⟨rfl, rfl⟩
  go_wp2_with fail
  go_region_with (first | (go_at_call 246; refine (inLegs_any _ _).mono ?_; rintro e w3 ⟨rfl, hb3⟩; have HB3 := Lib.hid (below_trans HBd.out hb3); have hc3 := HC.out _ HB3.out; have hf3 := HF.out _ HB3.out; clear hb3) | (go_at_call 84; (with_reducible_and_instances refine (with_any q l _ HK.out HL.out).mono ?_); rintro e w4 ⟨rfl, rfl⟩) | fail)
  all_goals
    go_wp2_with fail
    go_end0
    exact ⟨rfl, HT.out _ HB3.out⟩

def tickOut (v : Int) : Value := .iface 138 (.agg #[.int .u64 v])
set_option maxRecDepth 20000 in
set_option maxHeartbeats 800000 in
theorem seatsOut_any (g : Nat) (v : Int) (w : World) :
    Calls Tryz.prog 82 #[.pointer (some ⟨g, 0, none⟩), .iface 138 (.agg #[.int .u64 v])] w (Same (.slice (some ⟨g, 4, none⟩) 6 6) w) := by
  go_enter Tryz.func82, Tryz.ntmps82
  go_wp2
  go_ret
  exact ⟨rfl, rfl⟩
set_option maxRecDepth 20000 in
set_option maxHeartbeats 800000 in
theorem seatsOfOut_any (v : Int) (w : World) :
    Calls Tryz.prog 45 #[.iface 138 (.agg #[.int .u64 v])] w (Same (.int .i64 6) w) := by
  go_enter Tryz.func45, Tryz.ntmps45
  go_wp2
  go_ret
  exact ⟨rfl, rfl⟩
set_option maxRecDepth 20000 in
set_option maxHeartbeats 3200000 in
theorem freeOut_any (g f t : Nat) (o : Int) (S : Bool → Nat → Nat) (w : World) (h : CoachAt w g S) (hf : f ≤ t) (ht : t ≤ 7) :
    Calls Tryz.prog 46 #[.pointer (some ⟨g, 0, none⟩), .iface 138 (.agg #[.int .u64 (legs f t)]), .int .i64 o] w (OnlyB ((0 ≤ o ∧ o < 6) ∧ S false o.toNat &&& legs f t = 0) w) := by
  have H := Lib.hid h
  clear h
  by_cases h0 : 0 ≤ o
  rotate_left
  · have d0 : decide (0 ≤ o) = false := by simpa using h0
    have HN := Lib.hid h0
    clear h0
    go_enter Tryz.func46, Tryz.ntmps46
    go_wp2_with fail
    refine (seatsOut_any g _ w).mono ?_
    rintro e w2 ⟨rfl, rfl⟩
    go_wp2_with fail
    go_quiet (fail)
    go_wp2_with fail
    go_ret
    exact onlyB_false (fun hh => by have := HN.out; omega) (bl_drewN (Below.refl _ _) _)
  by_cases h1 : o < 6
  rotate_left
  · have d0 : decide (o < 6) = false := by simpa using h1
    have HN := Lib.hid h1
    clear h1
    go_enter Tryz.func46, Tryz.ntmps46
    go_wp2_with fail
    refine (seatsOut_any g _ w).mono ?_
    rintro e w2 ⟨rfl, rfl⟩
    go_wp2_with fail
    go_quiet (fail)
    go_wp2_with fail
    go_ret
    exact onlyB_false (fun hh => by have := HN.out; omega) (bl_drewN (Below.refl _ _) _)
  obtain ⟨s, rfl⟩ : ∃ s : Nat, o = s := ⟨o.toNat, by omega⟩
  obtain ⟨hc, hS⟩ := H.out.2.2 false s (by simp [capOf]; omega)
  have HC := Lib.hid (fun (W : World) (hW : Below w.heap.size w W) => ((H.out.below hW).2.2 false s (by simp [capOf]; omega)).1)
  have HL := Lib.hid (legs_lt f t ht)
  have HK := Lib.hid hS
  have e0 : ((s : Int).toNat) = s := rfl
  rw [e0]
  simp only [baseOf, Bool.false_eq_true, if_false] at hc HC
  clear hS e0 hf ht
  generalize S false s = q at *
  generalize legs f t = l at *
  have i0 : (0 : Int) ≤ (s : Int) := by omega
  have hr : (0 ≤ (s : Int) ∧ (s : Int) < 6) := ⟨h0, h1⟩
  have HR := Lib.hid hr
  clear hr
  have HBd := Lib.hid (below_drew (Below.refl w.heap.size w))
  by_cases hm : q &&& l = 0
  · have HM := Lib.hid (show ¬ (q &&& l ≠ 0) from fun h => h hm)
    have HM2 := Lib.hid hm
    clear hm H
    go_enter Tryz.func46, Tryz.ntmps46
    go_wp2_with fail
    refine (seatsOut_any g _ w).mono ?_
    rintro e w2 ⟨rfl, rfl⟩
    go_wp2_with fail
    go_region_held3 (fun w' => w'.cell? ⟨g, 4 + s, none⟩ = some (.int .u64 (q : Int))) (first | exact hc | exact HC3.out | go_keep)
      (first | (go_at_call 247; refine (outLegs_any _ _).mono ?_; rintro e w3 ⟨rfl, hb3⟩; have HB3 := Lib.hid (below_trans HBd.out hb3); have HC3 := Lib.hid (HC.out _ HB3.out); clear hb3) | (go_at_call 83; (with_reducible_and_instances refine (meets_any q l _ HK.out HL.out).mono ?_); intro e w4 hp; obtain ⟨rfl, rfl⟩ := hp.no HM.out; clear hp) | fail)
    go_wp2_with fail
    go_ret
    exact onlyB_true ⟨HR.out, HM2.out⟩ HB3.out
  · have HM := Lib.hid (show q &&& l ≠ 0 from hm)
    clear hm H
    go_enter Tryz.func46, Tryz.ntmps46
    go_wp2_with fail
    refine (seatsOut_any g _ w).mono ?_
    rintro e w2 ⟨rfl, rfl⟩
    go_wp2_with fail
    go_region_held3 (fun w' => w'.cell? ⟨g, 4 + s, none⟩ = some (.int .u64 (q : Int))) (first | exact hc | exact HC3.out | go_keep)
      (first | (go_at_call 247; refine (outLegs_any _ _).mono ?_; rintro e w3 ⟨rfl, hb3⟩; have HB3 := Lib.hid (below_trans HBd.out hb3); have HC3 := Lib.hid (HC.out _ HB3.out); clear hb3) | (go_at_call 83; (with_reducible_and_instances refine (meets_any q l _ HK.out HL.out).mono ?_); intro e w4 hp; obtain ⟨rfl, rfl⟩ := hp.yes HM.out; clear hp) | fail)
    go_wp2_with fail
    go_ret
    exact onlyB_false (fun hh => HM.out hh.2) HB3.out

set_option maxRecDepth 20000 in
set_option maxHeartbeats 3200000 in
theorem takeOut_any (g f t s : Nat) (S : Bool → Nat → Nat) (w : World) (h : CoachAt w g S) (hf : f ≤ t) (ht : t ≤ 7) (hs : s < 6) :
    Calls Tryz.prog 47 #[.pointer (some ⟨g, 0, none⟩), .iface 138 (.agg #[.int .u64 (legs f t)]), .int .i64 s] w (Took w g (takeS S false s (legs f t))) := by
  obtain ⟨hc, hS⟩ := h.2.2 false s (by simp [capOf]; omega)
  have HC := Lib.hid (fun (W : World) (hW : Below w.heap.size w W) => ((h.below hW).2.2 false s (by simp [capOf]; omega)).1)
  have HF := Lib.hid (fun (W : World) (hW : Below w.heap.size w W) => (h.below hW).2.1 (4 + s))
  have HL := Lib.hid (legs_lt f t ht)
  have HK := Lib.hid hS
  have HT := Lib.hid (fun (W : World) (hW : Below w.heap.size w W) => coach_take h hW false s (legs f t) (by simp [capOf]; omega) HL.out)
  simp only [baseOf, Bool.false_eq_true, if_false] at hc HC HT
  clear hS hf ht h
  generalize takeS S false s (legs f t) = S' at *
  generalize S false s = q at *
  generalize legs f t = l at *
  have i0 : (0 : Int) ≤ (s : Int) := by omega
  have i1 : (s : Int) < 6 := by omega
  have HBd := Lib.hid (below_drew (Below.refl w.heap.size w))
  go_enter Tryz.func47, Tryz.ntmps47
  go_wp2_with fail
  refine (seatsOut_any g _ w).mono ?_
  rintro e w2 ⟨rfl, rfl⟩
  go_wp2_with fail
  go_region_with (first | (go_at_call 247; refine (outLegs_any _ _).mono ?_; rintro e w3 ⟨rfl, hb3⟩; have HB3 := Lib.hid (below_trans HBd.out hb3); have hc3 := HC.out _ HB3.out; have hf3 := HF.out _ HB3.out; clear hb3) | (go_at_call 84; (with_reducible_and_instances refine (with_any q l _ HK.out HL.out).mono ?_); rintro e w4 ⟨rfl, rfl⟩) | fail)
  all_goals
    go_wp2_with fail
    go_end0
    exact ⟨rfl, HT.out _ HB3.out⟩
end Go.Proofs.YtgjllminidlolaaGreatDoor
/- Contracts: SeatingValid of the program. -/
set_option linter.unusedVariables false
namespace Go.Proofs.YtgjllminidlolaaGreatDoor
open Go.RowKit

theorem free_any (g f t : Nat) (k : Bool) (o : Int) (S : Bool → Nat → Nat) (w : World) (h : CoachAt w g S) (hf : f ≤ t) (ht : t ≤ 7) :
    Calls Tryz.prog 46 #[.pointer (some ⟨g, 0, none⟩), tick f t k, .int .i64 o] w (OnlyB ((0 ≤ o ∧ o < capOf k) ∧ S k o.toNat &&& legs f t = 0) w) := by
  cases k
  · exact freeOut_any g f t o S w h hf ht
  · exact freeIn_any g f t o S w h hf ht
theorem take_any (g f t s : Nat) (k : Bool) (S : Bool → Nat → Nat) (w : World) (h : CoachAt w g S) (hf : f ≤ t) (ht : t ≤ 7) (hs : s < capOf k) :
    Calls Tryz.prog 47 #[.pointer (some ⟨g, 0, none⟩), tick f t k, .int .i64 s] w (Took w g (takeS S k s (legs f t))) := by
  cases k
  · exact takeOut_any g f t s S w h hf ht hs
  · exact takeIn_any g f t s S w h hf ht hs
theorem seatsOf_any (f t : Nat) (k : Bool) (w : World) : Calls Tryz.prog 45 #[tick f t k] w (Same (.int .i64 (capOf k)) w) := by
  cases k
  · exact seatsOfOut_any _ w
  · exact seatsOfIn_any _ w
/-- The coach where the bookings ahead of j have their seats. -/
def occS (xs : List B3) (ys : List Int) : Bool → Nat → Nat := fun k s => occ xs ys k s
theorem occS_next {xs : List B3} {ys : List Int} {j : Nat} {p : B3} {o : Nat} (hx : xs[j]? = some p) (ho : ys[j]? = some (o : Int)) :
    takeS (occS (xs.take j) (ys.take j)) p.c o (legs p.a.toNat p.b.toNat) = occS (xs.take (j + 1)) (ys.take (j + 1)) := by
  funext k s
  simp only [takeS, occS, occ_next hx ho]
  by_cases e : k = p.c ∧ s = o
  · obtain ⟨rfl, rfl⟩ := e
    rw [if_pos ⟨rfl, rfl⟩, if_pos ⟨rfl, rfl⟩]
  · rw [if_neg e, if_neg (fun h => e ⟨h.1.symm, by omega⟩), Nat.or_zero]
theorem seat_free {xs : List B3} {ys : List Int} {j : Nat} {p : B3} {o : Int} (hall : ∀ q ∈ xs, OkB 7 q) (hp : OkB 7 p) (h0 : 0 ≤ o) : (occS (xs.take j) (ys.take j) p.c o.toNat &&& legs p.a.toNat p.b.toNat = 0) ↔ blk (xs.take j) (ys.take j) p o = false := by
  have h := occ_blk (xs.take j) (ys.take j) p o (fun q hq => hall q (List.mem_of_mem_take hq)) hp
  unfold occS
  rw [Int.toNat_of_nonneg h0]
  cases hb : blk (xs.take j) (ys.take j) p o with
  | false => rw [hb] at h; simp at h; simp [h]
  | true => rw [hb] at h; simp at h; simp [h]
theorem seat_not_free {xs : List B3} {ys : List Int} {j : Nat} {p : B3} {o : Int} (hx : xs[j]? = some p) (ho : ys[j]? = some o) (hall : ∀ q ∈ xs, OkB 7 q)
    (h : ¬ ((0 ≤ o ∧ o < capOf p.c) ∧ occS (xs.take j) (ys.take j) p.c o.toNat &&& legs p.a.toNat p.b.toNat = 0)) : ¬ SeatOk xs ys := by
  by_cases hr : 0 ≤ o ∧ o < capOf p.c
  · refine seat_not_blk hx ho ?_
    cases hb : blk (xs.take j) (ys.take j) p o with
    | true => rfl
    | false => exact absurd ⟨hr, (seat_free hall (hall p (mem_at hx)) hr.1).2 hb⟩ h
  · exact seat_not_range hx ho hr
theorem coach_zero (w : World) (T : TypeId) : CoachAt (w.alloc (.cells #[.int .u64 0, .int .u64 0, .int .u64 0, .int .u64 0, .int .u64 0, .int .u64 0, .int .u64 0, .int .u64 0, .int .u64 0, .int .u64 0] T)) w.heap.size (occS [] []) := by
  have hz := heap_alloc_new w (.cells #[.int .u64 0, .int .u64 0, .int .u64 0, .int .u64 0, .int .u64 0, .int .u64 0, .int .u64 0, .int .u64 0, .int .u64 0, .int .u64 0] T)
  refine ⟨by simp, fun j => frozen_of_row _ _ j _ _ hz, fun k s hs => ⟨?_, by simp [occS, occ]⟩⟩
  rw [cell_of_row _ _ _ _ _ _ hz]
  cases k
  · simp only [capOf, Bool.false_eq_true, if_false] at hs
    rcases (by omega : s = 0 ∨ s = 1 ∨ s = 2 ∨ s = 3 ∨ s = 4 ∨ s = 5) with rfl | rfl | rfl | rfl | rfl | rfl <;> rfl
  · simp only [capOf, if_true] at hs
    rcases (by omega : s = 0 ∨ s = 1 ∨ s = 2 ∨ s = 3) with rfl | rfl | rfl | rfl <;> rfl
theorem below_own {w W W' : World} {g : Nat} (hb : Below w.heap.size w W) (hg : W.grownBy W' (some g)) (h : w.heap.size ≤ g) : Below w.heap.size w W' :=
  hb.grown hg hb.size (fun j hj => by injection hj with hj; omega)

end Go.Proofs.YtgjllminidlolaaGreatDoor
/- Contracts: SeatingValid of the reference. -/
set_option linter.unusedVariables false
namespace Go.Proofs.YtgjllminidlolaaGreatDoor
open Go.RowKit

theorem cellB_of {w wr : World} {b off n : Nat} {xs : List B3} (h : SlE 3 encB w (some ⟨b, off, none⟩) n xs) (hb : Below w.heap.size w wr) {j : Nat} {x y : Int} {z : Bool} (hx : xs[j]? = some ⟨x, y, z⟩) :
    wr.cell? ⟨b, off + j * 3, none⟩ = some (.int .i64 x) ∧ wr.cell? ⟨b, off + j * 3 + 1, none⟩ = some (.int .i64 y) ∧ wr.cell? ⟨b, off + j * 3 + 2, none⟩ = some (.bool z) := by
  have hj : j < n := by rw [← h.len]; exact (List.getElem?_eq_some_iff.1 hx).1
  obtain ⟨b', off', x1, y1, z1, hA, -, hx1, -, g0, g1, g2⟩ := atB h hb hj
  injection hA with hA
  injection hA with e1 e2
  subst e1 e2
  rw [hx] at hx1
  injection hx1 with hx1
  injection hx1 with e1 e2 e3
  subst e1 e2 e3
  exact ⟨g0, g1, g2⟩
theorem cell1_of {w wr : World} {b off n : Nat} {xs : List Int} (h : SlE 1 encI w (some ⟨b, off, none⟩) n xs) (hb : Below w.heap.size w wr) {j : Nat} {x : Int} (hx : xs[j]? = some x) : wr.cell? ⟨b, off + j, none⟩ = some (.int .i64 x) := by
  have hj : j < n := by rw [← h.len]; exact (List.getElem?_eq_some_iff.1 hx).1
  obtain ⟨b', off', x1, hA, -, hx1, -, g0⟩ := at1 h hb hj
  injection hA with hA
  injection hA with e1 e2
  subst e1 e2
  rw [hx] at hx1
  injection hx1 with hx1
  subst hx1
  exact g0

set_option maxRecDepth 20000 in
set_option maxHeartbeats 1600000 in
theorem l4Meet_any (p q : B3) (w : World) :
    Calls Tryz.prog 86 #[.agg #[.int .i64 p.a, .int .i64 p.b, .bool p.c], .agg #[.int .i64 q.a, .int .i64 q.b, .bool q.c]] w (OnlyB (meetB p q) w) := by
  obtain ⟨a, b, c⟩ := p
  obtain ⟨a', b', c'⟩ := q
  have HB := Lib.hid (below_alloc (below_alloc (Below.refl w.heap.size w) (.cells #[.int .i64 a, .int .i64 b, .bool c] 34)) (.cells #[.int .i64 a', .int .i64 b', .bool c'] 34))
  dsimp only
  by_cases hk : c = c'
  · subst hk
    by_cases h1 : a < b'
    · by_cases h2 : a' < b
      · go_enter Tryz.func86, Tryz.ntmps86
        go_wp2_with fail
        go_ret
        exact onlyB_true ⟨rfl, h1, h2⟩ HB.out
      · have d2 : decide (a' < b) = false := by simpa using h2
        have HN := Lib.hid h2
        clear h2
        go_enter Tryz.func86, Tryz.ntmps86
        go_wp2_with fail
        go_ret
        exact onlyB_false (fun hh => by have := HN.out; have := hh.2.2; dsimp only at this; omega) HB.out
    · have d1 : decide (a < b') = false := by simpa using h1
      have HN := Lib.hid h1
      clear h1
      go_enter Tryz.func86, Tryz.ntmps86
      go_wp2_with fail
      go_ret
      exact onlyB_false (fun hh => by have := HN.out; have := hh.2.1; dsimp only at this; omega) HB.out
  · have d0 : (c == c') = false := by simpa using hk
    have HN := Lib.hid (show ¬ meetB ⟨a, b, c⟩ ⟨a', b', c'⟩ from fun hh => hk hh.1)
    clear hk
    go_enter Tryz.func86, Tryz.ntmps86
    go_wp2_with fail
    go_ret
    exact onlyB_false HN.out HB.out

end Go.Proofs.YtgjllminidlolaaGreatDoor
/- Small facts on a slice of ints that a call makes. -/
set_option linter.unusedVariables false
namespace Go.Proofs.YtgjllminidlolaaGreatDoor
open Go.RowKit
theorem info_intN : (Tryz.prog.info? 3).map (fun i => (i.zero, i.size, i.bytes)) = some (some (.int .i64 0), 1, 8) := by kernel_rfl
theorem made1 (n : Nat) : (madeCells #[.int .i64 0] n).toList = (List.replicate n (0 : Int)).flatMap encI := by
  apply List.ext_getElem?
  intro j
  by_cases hj : j < n
  · have h3 := flat_at encI_len (List.replicate n (0 : Int)) j 0 (by rw [List.getElem?_replicate, if_pos hj]) 0 (.int .i64 0) rfl
    rw [Nat.mul_one, Nat.add_zero] at h3
    rw [h3]
    have h4 : (madeCells #[.int .i64 0] n)[j]? = some (.int .i64 0) := by simp [madeCells, hj, Nat.mod_one]
    simpa using h4
  · have h1 : (madeCells #[.int .i64 0] n).toList.length = n := by simp [madeCells]
    rw [List.getElem?_eq_none (by rw [h1]; omega), List.getElem?_eq_none (by rw [flat_len encI_len, List.length_replicate]; omega)]
end Go.Proofs.YtgjllminidlolaaGreatDoor
