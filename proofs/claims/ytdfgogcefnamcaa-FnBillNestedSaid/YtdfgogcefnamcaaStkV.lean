/- Contracts: taking out, putting on, a stop, all stops. -/
import Derived.Test.YtdfgogcefnamcaaStkW
set_option linter.unusedVariables false
namespace Go.Proofs.Ytdfgogcefnamcaa
open Go.RowKit

theorem blk_lt {w : World} {q : Nat} {o : Obj} (h : w.heap[q]? = some o) : q < w.heap.size := (Array.getElem?_eq_some_iff.1 h).1
theorem blk_below {w w' : World} {q B : Nat} {o : Obj} (h : w.heap[q]? = some o) (hb : Below B w w') (hq : q < B) : w'.heap[q]? = some o := (hb.block q hq).trans h
theorem blk_cell {w : World} {q : Nat} {cs : Array Value} {t : TypeId} (h : w.heap[q]? = some (.cells cs t (0, 0))) (i : Nat) : w.cell? ⟨q, i, none⟩ = cs[i]? := cell_of_row w q i cs t (0, 0) h
theorem blk_frozen {w : World} {q : Nat} {cs : Array Value} {t : TypeId} (h : w.heap[q]? = some (.cells cs t (0, 0))) (i : Nat) : w.frozen? ⟨q, i, none⟩ = false := frozen_of_row w q i cs t h
/-- The stack's struct in block q: the packets' slice and the moves. -/
def Stk (B : Nat) (w : World) (q : Nat) (is : List Int) (mv : Int) : Prop :=
  B ≤ q ∧ ∃ A n c ps, w.heap[q]? = some (.cells #[.slice A n c, .int .i64 mv] 70 (0, 0)) ∧ OwnE 4 enc4 78 B w (.slice A n c) ps ∧ ps.length = n ∧ n ≤ c ∧ ps.map (·.i) = is
theorem Stk.below {B : Nat} {w w' : World} {q : Nat} {is : List Int} {mv : Int} (h : Stk B w q is mv) (hb : Below w.heap.size w w') : Stk B w' q is mv := by
  obtain ⟨hq, A, n, c, ps, h1, h2, h3⟩ := h
  exact ⟨hq, A, n, c, ps, blk_below h1 hb (blk_lt h1), h2.below hb (Nat.le_refl _), h3⟩
theorem own_ne_blk {w : World} {B : Nat} {A : Option Addr} {n c q : Nat} {ps : List P4} {cs : Array Value} (h : OwnE 4 enc4 78 B w (.slice A n c) ps) (hq : w.heap[q]? = some (.cells cs 70 (0, 0))) : Value.ownBlock (.slice A n c) ≠ some q := by
  rcases h.2 with ⟨hv, _⟩ | ⟨g, cap, cur, hv, _, hh, _⟩
  · injection hv with h1
    subst h1
    simp [Value.ownBlock]
  · injection hv with h1 h2 h3
    subst h1
    intro e
    simp only [Value.ownBlock, Option.some.injEq] at e
    subst e
    rw [hh] at hq
    simp at hq

theorem blk_set {w : World} {q : Nat} {cs : Array Value} {t : TypeId} (h : w.heap[q]? = some (.cells cs t (0, 0))) (i : Nat) (u : Value) : (w.setCell ⟨q, i, none⟩ u).heap[q]? = some (.cells (cs.setIfInBounds i u) t (0, 0)) := heap_setCell_same w q i cs t u h
theorem OwnE.far {α : Type} {k ty base : Nat} {enc : α → List Value} {w : World} {v : Value} {xs : List α} (h : OwnE k enc ty base w v xs) {p : Addr} (hp : v.ownBlock ≠ some p.block) (u : Value) : OwnE k enc ty base (w.setCell p u) v xs := ownsRow_setCell_other h hp u

set_option maxRecDepth 20000 in
set_option maxHeartbeats 1600000 in
theorem take_any (B q : Nat) (is : List Int) (mv idx : Int) (w : World) (h : Stk B w q is mv) (hl : is.length ≤ 4096) (h0 : 0 ≤ mv) (h1 : mv ≤ 1000000) (hB : B ≤ w.heap.size) :
    Calls Try.prog 89 #[.pointer (some ⟨q, 0, none⟩), .int .i64 idx] w fun e w' => e = .returned (.tuple #[]) ∧ Stk B w' q (takeI (is, mv) idx).1 (takeI (is, mv) idx).2 ∧ Below B w w' := by
  obtain ⟨hq, A, n, c, ps, hblk, hown, hpl, hnc, rfl⟩ := h
  have c0 : w.cell? ⟨q, 0, none⟩ = some (.slice A n c) := blk_cell hblk 0
  have c1 : w.cell? ⟨q, 1, none⟩ = some (.int .i64 mv) := blk_cell hblk 1
  have hqs := blk_lt hblk
  rw [List.length_map, hpl] at hl
  have HK := Lib.hid hblk
  have HO := Lib.hid hown
  have HP := Lib.hid hpl
  have hcl : (w.alloc (.cells #[.int .i64 idx] 3)).cell? ⟨w.heap.size, 0, none⟩ = some (.int .i64 idx) := by
    rw [cell_of_row _ w.heap.size 0 #[.int .i64 idx] 3 (0, 0) (heap_alloc_new w _)]; rfl
  have HC := Lib.hid hcl
  have HS := Lib.hid ((sl_of_own_at enc4_len hown hpl).alloc (.cells #[.int .i64 idx] 3))
  clear hblk hown hpl hcl
  go_enter Try.func89, Try.ntmps89
  go_wp2_with fail
  refine (indexFunc_any A n c w.heap.size idx ps _ HS.out (by omega) HC.out).mono ?_
  rintro e w1 ⟨rfl, hb1⟩
  have HB1 := Lib.hid (below_trans (below_alloc (Below.refl _ w) (.cells #[.int .i64 idx] 3)) hb1)
  have HK1 := Lib.hid (blk_below HK.out HB1.out hqs)
  have HO1 := Lib.hid (HO.out.below HB1.out (Nat.le_refl _))
  clear hb1
  by_cases hm : idx ∈ ps.map (·.i)
  · have hlt := List.idxOf_lt_length_iff.2 hm
    rw [List.length_map, HP.out] at hlt
    have e1 : findI (ps.map (·.i)) idx = ((ps.map (·.i)).idxOf idx : Int) := by unfold findI; rw [if_pos hm]
    have e2 : takeI (ps.map (·.i), mv) idx = ((ps.eraseIdx ((ps.map (·.i)).idxOf idx)).map (·.i), mv + ((n : Int) - 1 - ((ps.map (·.i)).idxOf idx : Int))) := by
      unfold takeI
      rw [if_pos hm]
      simp only [List.length_map, HP.out]
      congr 1
      simp [List.eraseIdx_eq_take_drop_succ]
    rw [e1]
    clear e1 hm
    generalize (ps.map (·.i)).idxOf idx = k at *
    have E2 := Lib.hid e2
    clear e2
    obtain ⟨g, rfl, hnl, hbg, hg, hfz⟩ := HO1.out.form (by have := HP.out; omega)
    clear hnl
    have d0 : w1.cell? ⟨q, 0, none⟩ = some (.slice (some ⟨g, 0, none⟩) n c) := blk_cell HK1.out 0
    have d1 : w1.cell? ⟨q, 1, none⟩ = some (.int .i64 mv) := blk_cell HK1.out 1
    have dz := blk_frozen HK1.out 1
    clear hfz
    have x1 : IntKind.i64.wrap ((n : Int) - 1) = (n : Int) - 1 := IntWalk.i64_in _ (by omega)
    have x2 : IntKind.i64.wrap ((n : Int) - 1 - (k : Int)) = (n : Int) - 1 - (k : Int) := IntWalk.i64_in _ (by omega)
    have x3 : IntKind.i64.wrap (mv + ((n : Int) - 1 - (k : Int))) = mv + ((n : Int) - 1 - (k : Int)) := IntWalk.i64_in _ (by omega)
    have y1 : (0 : Int) ≤ (k : Int) := by omega
    go_wp2_with fail
    go_still_tail 15, (by kernel_rfl)
    change wpList _ _ _ _ _ w1.drew
    clear x1 x2 x3
    have hne := own_ne_blk HO1.out HK1.out
    have HO2 := Lib.hid ((HO1.out.far (p := ⟨q, 1, none⟩) hne (.int .i64 (mv + ((n : Int) - 1 - (k : Int))))).drew)
    have HK2 := Lib.hid (show (w1.setCell ⟨q, 1, none⟩ (.int .i64 (mv + ((n : Int) - 1 - (k : Int))))).drew.heap[q]? = some (.cells #[.slice (some ⟨g, 0, none⟩) n c, .int .i64 (mv + ((n : Int) - 1 - (k : Int)))] 70 (0, 0)) from blk_set HK1.out 1 _)
    have HB2 := Lib.hid (show Below B w (w1.setCell ⟨q, 1, none⟩ (.int .i64 (mv + ((n : Int) - 1 - (k : Int))))).drew from ((HB1.out.mono hB).setCell (p := ⟨q, 1, none⟩) hq _).drew)
    have HNE := Lib.hid hne
    clear hne
    go_wp2_with fail
    refine (delete_any g n c B k ps _ HO2.out HP.out (by omega) hnc hlt).mono ?_
    rintro e w3 ⟨rfl, hown3, hg3⟩
    have hqg : q ≠ g := fun e => HNE.out (by simp [Value.ownBlock, e])
    have HK3 := Lib.hid ((hg3.block q (by have := blk_lt HK2.out; exact this) (by simpa using hqg)).trans HK2.out)
    have HB3 := Lib.hid (HB2.out.grown hg3 (Nat.le_trans hB HB2.out.size) (fun j hj => by injection hj with hj; omega))
    have HO3 := Lib.hid hown3
    have g0 : w3.cell? ⟨q, 0, none⟩ = some (.slice (some ⟨g, 0, none⟩) n c) := blk_cell HK3.out 0
    have gz := blk_frozen HK3.out 0
    clear hown3 hg3 d0 d1 dz c0 c1
    go_wp2
    go_end0
    have hne3 : Value.ownBlock (.slice (some ⟨g, 0, none⟩) (n - 1) c) ≠ some q := fun e => HNE.out e
    refine ⟨rfl, ?_, HB3.out.setCell (p := ⟨q, 0, none⟩) hq _⟩
    rw [E2.out]
    exact ⟨hq, _, _, _, ps.eraseIdx k, blk_set HK3.out 0 _, HO3.out.far (p := ⟨q, 0, none⟩) hne3 _, by rw [List.length_eraseIdx, HP.out, if_pos hlt], by omega, rfl⟩
  · have e1 : findI (ps.map (·.i)) idx = -1 := by unfold findI; rw [if_neg hm]
    have e2 : takeI (ps.map (·.i), mv) idx = (ps.map (·.i), mv) := by unfold takeI; rw [if_neg hm]
    rw [e1]
    have E2 := Lib.hid e2
    clear e1 e2 hm
    go_wp2
    refine bodyPost_ret (results_none rfl _ _ _) rfl ⟨rfl, ?_, HB1.out.mono hB⟩
    rw [E2.out]
    exact ⟨hq, A, n, c, ps, HK1.out, HO1.out, HP.out, hnc, rfl⟩

set_option maxRecDepth 20000 in
set_option maxHeartbeats 1600000 in
theorem put_any (B q : Nat) (is : List Int) (mv : Int) (x y i z : Int) (w : World) (h : Stk B w q is mv) (hl : is.length ≤ 4096) (hB : B ≤ w.heap.size) :
    Calls Try.prog 90 #[.pointer (some ⟨q, 0, none⟩), .agg #[.int .i64 x, .int .i64 y, .int .i64 i, .int .i64 z]] w fun e w' => e = .returned (.tuple #[]) ∧ Stk B w' q (is ++ [i]) mv ∧ Below B w w' := by
  obtain ⟨hq, A, n, c, ps, hblk, hown, hpl, hnc, rfl⟩ := h
  have c0 : w.cell? ⟨q, 0, none⟩ = some (.slice A n c) := blk_cell hblk 0
  have hqs := blk_lt hblk
  have fz := blk_frozen hblk 0
  rw [List.length_map, hpl] at hl
  have HP := Lib.hid hpl
  generalize hC : Obj.cells #[.int .i64 x, .int .i64 y, .int .i64 i, .int .i64 z] 78 = C
  have HC := Lib.hid hC
  have hb2 : Below w.heap.size w ((w.alloc C).alloc C).drew := below_drew (below_alloc (below_alloc (Below.refl _ w) C) C)
  have HB2 := Lib.hid hb2
  have HK2 := Lib.hid (blk_below hblk hb2 hqs)
  have HO2 := Lib.hid (hown.below hb2 (Nat.le_refl _))
  have HNE := Lib.hid (own_ne_blk hown hblk)
  have z1 : (w.alloc C).heap.size = w.heap.size + 1 := by simp
  have S2 := Lib.hid (show SlE 4 enc4 ((w.alloc C).alloc C).drew (some ⟨w.heap.size + 1, 0, none⟩) 1 [⟨x, y, i, z⟩] from (HC.out ▸ slE_new (w.alloc C) _ enc4_len [⟨x, y, i, z⟩] #[.int .i64 x, .int .i64 y, .int .i64 i, .int .i64 z] rfl (by simp [maxLen]) rfl z1.symm))
  have n1 : (ps.length + 1) * 32 ≤ 140737488355328 ∧ ps.length + 1 ≤ maxLen := by rw [HP.out]; exact ⟨by omega, by unfold maxLen; omega⟩
  have N1 := Lib.hid n1
  have L1 := Lib.hid (show (ps ++ [(⟨x, y, i, z⟩ : P4)]).length = n + 1 from by rw [List.length_append, HP.out]; rfl)
  have Z2 := Lib.hid (show B ≤ ((w.alloc C).alloc C).drew.heap.size from Nat.le_trans hB hb2.size)
  clear hblk hown hpl hb2 n1 z1
  subst hC
  go_enter Try.func90, Try.ntmps90
  go_wp2_with fail
  go_region_law (refine step_cat (bytes := 32) (base := B) enc4_len enc4_one (Nat.succ_pos 3) rfl (.tmp 8) (.tmp 10) _ rfl Try.underlying68 info_packet rfl _ ps rfl HO2.out rfl S2.out N1.out.1 N1.out.2 Z2.out ?_; intro v' w3 hown3 hg3; obtain ⟨A3, c3, rfl, hs3, hc3⟩ := hown3.slc enc4_len L1.out; clear hs3; have HO3 := Lib.hid hown3; have HK3 := Lib.hid ((hg3.block q (by have := blk_lt HK2.out; exact this) (fun e => HNE.out e.symm)).trans HK2.out); have HB3 := Lib.hid ((HB2.out.mono hB).grown hg3 Z2.out (fun j hj => (HO2.out.lt j hj).1)); have g0 : w3.cell? ⟨q, 0, none⟩ = some (.slice A n c) := blk_cell HK3.out 0; have gz := blk_frozen HK3.out 0; clear hown3 hg3)
  all_goals
    go_wp2
    go_end0
    refine ⟨rfl, ⟨hq, A3, n + 1, c3, ps ++ [⟨x, y, i, z⟩], blk_set HK3.out 0 _, HO3.out.far (p := ⟨q, 0, none⟩) (own_ne_blk HO3.out HK3.out) _, L1.out, hc3, by simp⟩, HB3.out.setCell (p := ⟨q, 0, none⟩) hq _⟩
end Go.Proofs.Ytdfgogcefnamcaa
