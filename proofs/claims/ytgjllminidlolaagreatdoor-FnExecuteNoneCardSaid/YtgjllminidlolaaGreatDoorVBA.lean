/- Texts of mine in one: ZDraw ZDrawB. -/
import Derived.Test.YtgjllminidlolaaGreatDoorVAB
import Derived.Test.YtgjllminidlolaaGreatDoorVAQ
import Derived.Test.YtgjllminidlolaaGreatDoorVAT
/- Contracts: the draw of a timetable. -/
set_option linter.unusedVariables false
namespace Go.Proofs.YtgjllminidlolaaGreatDoor
open Go.RowKit

theorem grown_alloc {w W : World} {row : Option Nat} (h : w.grownBy W row) (o : Obj) : w.grownBy (W.alloc o) row := grown_below h (below_alloc (Below.refl _ W) o)
theorem flat3_setA : ∀ (xs : List T3) (j : Nat) (p : T3) (x : Int), xs[j]? = some p → (xs.flatMap enc3).set (j * 3) (.int .i64 x) = (xs.set j ⟨x, p.b, p.c⟩).flatMap enc3
  | [], _, _, _, h => by simp at h
  | q :: xs, 0, p, x, h => by
    have e : q = p := by simpa using h
    subst e
    simp [enc3]
  | q :: xs, j + 1, p, x, h => by
    have ih := flat3_setA xs j p x (by simpa using h)
    have e0 : (j + 1) * 3 = j * 3 + 1 + 1 + 1 := by omega
    simp only [List.flatMap_cons, List.set_cons_succ, ← ih, enc3, List.cons_append, List.nil_append, e0]
theorem flat3_setB : ∀ (xs : List T3) (j : Nat) (p : T3) (x : Int), xs[j]? = some p → (xs.flatMap enc3).set (j * 3 + 1) (.int .i64 x) = (xs.set j ⟨p.a, x, p.c⟩).flatMap enc3
  | [], _, _, _, h => by simp at h
  | q :: xs, 0, p, x, h => by
    have e : q = p := by simpa using h
    subst e
    simp [enc3]
  | q :: xs, j + 1, p, x, h => by
    have ih := flat3_setB xs j p x (by simpa using h)
    have e0 : (j + 1) * 3 + 1 = j * 3 + 1 + 1 + 1 + 1 := by omega
    simp only [List.flatMap_cons, List.set_cons_succ, ← ih, enc3, List.cons_append, List.nil_append, e0]
theorem flat3_setC : ∀ (xs : List T3) (j : Nat) (p : T3) (x : Int), xs[j]? = some p → (xs.flatMap enc3).set (j * 3 + 2) (.int .i64 x) = (xs.set j ⟨p.a, p.b, x⟩).flatMap enc3
  | [], _, _, _, h => by simp at h
  | q :: xs, 0, p, x, h => by
    have e : q = p := by simpa using h
    subst e
    simp [enc3]
  | q :: xs, j + 1, p, x, h => by
    have ih := flat3_setC xs j p x (by simpa using h)
    have e0 : (j + 1) * 3 + 2 = j * 3 + 2 + 1 + 1 + 1 := by omega
    simp only [List.flatMap_cons, List.set_cons_succ, ← ih, enc3, List.cons_append, List.nil_append, e0]
/-- One cell of an own row of three-cell structs is written. -/
theorem own3_one {w : World} {base ty g cap n : Nat} {xs ys : List T3} (h : OwnE 3 enc3 ty base w (.slice (some ⟨g, 0, none⟩) n cap) xs) (hn : xs.length = n) {j : Nat} (x : Int) (hy : (xs.flatMap enc3).set j (.int .i64 x) = ys.flatMap enc3) (hl : ys.length = xs.length) :
    OwnE 3 enc3 ty base (w.setCell ⟨g, j, none⟩ (.int .i64 x)) (.slice (some ⟨g, 0, none⟩) n cap) ys ∧ w.grownBy (w.setCell ⟨g, j, none⟩ (.int .i64 x)) (some g) := by
  subst hn
  have h1 := World.ownsRow.stored h j (.int .i64 x)
  refine ⟨?_, h1.2⟩
  unfold OwnE
  rw [hl, ← hy]
  exact h1.1


/-- A draw of roads or stops under way: the reader and a slice of its own. -/
def DGT (ty : Nat) (w : World) (R m : Nat) (v : Value) (xs : List T3) (W : World) : Prop :=
  R < w.heap.size ∧ RdAt W R m ∧ w.grownBy W (some R) ∧ OwnE 3 enc3 ty w.heap.size W v xs
section
variable {ty : Nat} {w W W' : World} {R m m' : Nat} {v v' : Value} {xs ys : List T3}
theorem DGT.own_ne (h : DGT ty w R m v xs W) : v.ownBlock = none ∨ v.ownBlock ≠ some R := by
  by_cases e : v.ownBlock = some R
  · have := (h.2.2.2.lt R e).1
    have := h.1
    omega
  · exact .inr e
theorem DGT.pick (h : DGT ty w R m v xs W) (hr : RdAt W' R m') (hg : W.grownBy W' (some R)) : DGT ty w R m' v xs W' :=
  ⟨h.1, hr, grown_trans h.2.2.1 hg, OwnE.apart h.2.2.2 hg h.own_ne⟩
theorem DGT.alloc (h : DGT ty w R m v xs W) (o : Obj) : DGT ty w R m v xs (W.alloc o) :=
  ⟨h.1, h.2.1.below (below_alloc (Below.refl _ W) o) (Nat.le_refl _), grown_alloc h.2.2.1 o, OwnE.alloc h.2.2.2 o⟩
theorem DGT.drew (h : DGT ty w R m v xs W) : DGT ty w R m v xs W.drew := ⟨h.1, h.2.1, ⟨h.2.2.1.os, h.2.2.1.tape, h.2.2.1.output, h.2.2.1.size, h.2.2.1.block⟩, h.2.2.2⟩
theorem DGT.size (h : DGT ty w R m v xs W) : w.heap.size ≤ W.heap.size := h.2.2.1.size
theorem DGT.to (h : DGT ty w R m v xs W) (hg : W.grownBy W' v.ownBlock) (ho : OwnE 3 enc3 ty w.heap.size W' v' ys) : DGT ty w R m v' ys W' :=
  ⟨h.1, h.2.1.grown hg (fun j hj => by have := (h.2.2.2.lt j hj).1; have := h.1; omega), grown_own h.2.2.1 hg (fun j hj => (h.2.2.2.lt j hj).1), ho⟩
theorem DGT.below (h : DGT ty w R m v xs W) (hb : Below W.heap.size W W') : DGT ty w R m v xs W' :=
  ⟨h.1, h.2.1.below hb (Nat.le_refl _), grown_below h.2.2.1 hb, h.2.2.2.below hb (Nat.le_refl _)⟩
theorem DGT.next (h : DGT ty w R m v xs W) (hb : Below W.heap.size W W') (ho : OwnE 3 enc3 ty W.heap.size W' v' ys) : DGT ty w R m v' ys W' :=
  ⟨h.1, h.2.1.below hb (Nat.le_refl _), grown_below h.2.2.1 hb, ho.base_le h.size⟩
theorem DGT.mono (h : DGT ty w R m v xs W) (hm : m ≤ m') : DGT ty w R m' v xs W := ⟨h.1, h.2.1.mono hm, h.2.2⟩
end
/-- Stops have been drawn. -/
def DrawnS (w : World) (R m : Nat) (e : Ending) (w' : World) : Prop := ∃ v xs, e = .returned v ∧ xs.length ≤ 6 ∧ DGT 103 w R m v xs w'
theorem DrawnS.of {w W : World} {R m : Nat} {v : Value} {xs : List T3} (h : DGT 103 w R m v xs W) (hl : xs.length ≤ 6) {m' : Nat} (hm : m ≤ m') : DrawnS w R m' (.returned v) W := ⟨v, xs, rfl, hl, h.mono hm⟩

/-- A cell of a drawn timetable is there and may be written. -/
theorem DGT.at_ {ty : Nat} {w W : World} {R m g n c : Nat} {xs : List T3} (h : DGT ty w R m (.slice (some ⟨g, 0, none⟩) n c) xs W) (hl : xs.length = n) {j : Nat} (hj : j < n) :
    ∃ x y z, xs[j]? = some ⟨x, y, z⟩ ∧ W.cell? ⟨g, j * 3, none⟩ = some (.int .i64 x) ∧ W.cell? ⟨g, j * 3 + 1, none⟩ = some (.int .i64 y) ∧ W.cell? ⟨g, j * 3 + 2, none⟩ = some (.int .i64 z) := by
  obtain ⟨⟨x, y, z⟩, hp⟩ : ∃ p, xs[j]? = some p := ⟨_, List.getElem?_eq_getElem (by omega)⟩
  exact ⟨x, y, z, hp, OwnE.cell3 h.2.2.2 hp⟩
theorem DGT.put (f : Nat) {ty : Nat} {w W : World} {R m g n c : Nat} {xs : List T3} (h : DGT ty w R m (.slice (some ⟨g, 0, none⟩) n c) xs W) (hl : xs.length = n) {j : Nat} (hj : j < n) (hf : f < 3) (u : Int) {i : Nat} (hi : i = j * 3 + f) :
    ∃ ys, ys.length = n ∧ DGT ty w R m (.slice (some ⟨g, 0, none⟩) n c) ys (W.setCell ⟨g, i, none⟩ (.int .i64 u)) := by
  subst hi
  obtain ⟨p, hp⟩ : ∃ p, xs[j]? = some p := ⟨_, List.getElem?_eq_getElem (by omega)⟩
  obtain ⟨ys, hy, hyl⟩ : ∃ ys : List T3, (xs.flatMap enc3).set (j * 3 + f) (.int .i64 u) = ys.flatMap enc3 ∧ ys.length = xs.length := by
    match f, hf with
    | 0, _ => exact ⟨_, flat3_setA xs j p u hp, by simp⟩
    | 1, _ => exact ⟨_, flat3_setB xs j p u hp, by simp⟩
    | 2, _ => exact ⟨_, flat3_setC xs j p u hp, by simp⟩
  have h1 := own3_one h.2.2.2 hl u hy hyl
  exact ⟨ys, by omega, h.to h1.2 h1.1⟩

set_option maxRecDepth 20000 in
set_option maxHeartbeats 25600000 in
theorem l91Stops_any (R m : Nat) (n t : Int) (w : World) (h : RdAt w R m) (hm : m ≤ 50000) (hn : 2 ≤ n) (hn6 : n ≤ 6) :
    Calls Tryz.prog 99 #[.pointer (some ⟨R, 0, none⟩), .int .i64 n, .int .i64 t] w (DrawnS w R (m + 40)) := by
  have hRw := h.lt
  have H := Lib.hid h
  clear h
  have hmx : ¬ n ≤ 1 := by omega
  have D0 : Hid (DGT 103 w R m (.slice (some ⟨w.heap.size, 0, none⟩) 0 0) [] (w.alloc (.cells #[] 103))) :=
    ⟨hRw, H.out.below (below_alloc (Below.refl _ w) _) (Nat.le_refl _), grown_alloc (World.grownBy.refl w _) _, own_new (enc := enc3) (k := 3) w 103 w.heap.size (Nat.le_refl _) enc3_len [] #[] rfl (by simp) rfl⟩
  clear H
  go_enter Tryz.func99, Tryz.ntmps99
  go_wp2_with fail
  refine (pick_any R m 4 _ D0.out.2.1 (by omega) (by omega)).mono ?_
  rintro e w1 ⟨x1, rfl, a0, a1, -, hr, hg⟩
  have a1 := a1 (by omega)
  have D1 := Lib.hid (D0.out.pick hr hg)
  clear hr hg D0
  obtain ⟨M, hM⟩ : ∃ M : Nat, (M : Int) = 2 + x1 := ⟨(2 + x1).toNat, by omega⟩
  have hM1 : 2 ≤ M := by omega
  have hM2 : M ≤ 5 := by omega
  have hw1 : IntKind.i64.wrap (2 + x1) = 2 + x1 := IntWalk.i64_in _ (by omega)
  go_wp2_with fail
  rw [← hM]
  clear hM a0 a1 hw1
  refine (pick_any R (m + 1) _ w1 D1.out.2.1 (by omega) (by omega)).mono ?_
  rintro e w2 ⟨tw0, rfl, -, -, -, hr, hg⟩
  have D2 := Lib.hid (D1.out.pick hr hg)
  clear hr hg D1
  go_wp2_with fail
  go_loopw [2, 7, 9, 10] (fun t s tw i wr => ∃ (k : Nat) (tt tv : Int) (xs : List T3), (k : Int) ≤ n ∧ k ≤ M ∧ t = .int .i64 tt ∧ tw = .int .i64 tv ∧ i = .int .i64 k ∧ xs.length = k ∧ DGT 103 w R (m + 2 + 3 * k) s xs wr) (fun _ _ _ i _ => 6 - (intOf i).toNat)
  case atStart => exact ⟨0, t, tw0, [], by omega, by omega, rfl, rfl, rfl, rfl, D2.out⟩
  case round =>
    obtain ⟨k, tt, tv, xs, hk, hkM, rfl, rfl, rfl, hl, hd⟩ := hrel
    have HD := Lib.hid hd
    have HL := Lib.hid hl
    clear hd D2 hl
    by_cases hlt : (k : Int) < n ∧ k < M
    · obtain ⟨hl1, hl2⟩ := hlt
      have hz1 : (k : Int) < n := by omega
      have hz2 : (k : Int) < (M : Int) := by omega
      go_wp2_with fail
      refine (pick_any R (m + 2 + 3 * k) 3 wr HD.out.2.1 (by omega) (by omega)).mono ?_
      rintro e w3 ⟨p1, rfl, b0, b1, -, hr, hg⟩
      have D3 := Lib.hid (HD.out.pick hr hg)
      clear hr hg HD b1
      go_wp2_with fail
      refine (pick_any R (m + 2 + 3 * k + 1) 12 w3 D3.out.2.1 (by omega) (by omega)).mono ?_
      rintro e w4 ⟨p2, rfl, c0, c1, -, hr, hg⟩
      have D4 := Lib.hid (D3.out.pick hr hg)
      clear hr hg D3 c1
      have hsz := D4.out.size
      obtain ⟨q, hq⟩ : ∃ q, IntKind.i64.wrap (p1 * p2) = q := ⟨_, rfl⟩
      obtain ⟨t2, ht2⟩ : ∃ t2, IntKind.i64.wrap (tt + q) = t2 := ⟨_, rfl⟩
      obtain ⟨t3, ht3⟩ : ∃ t3, IntKind.i64.wrap (t2 + 1) = t3 := ⟨_, rfl⟩
      go_wp2_with (at_builtin; refine wpList_push 3 24 103 enc3 enc3_len enc3_one (by omega) ⟨tv, tt, t2⟩ _ _ rfl rfl _ _ _ rfl Tryz.underlying50 info_stop rfl w.heap.size _ xs rfl rfl rfl D4.out.2.2.2 (by rw [HL.out]; omega) (by rw [HL.out]; unfold maxLen; omega) hsz ?_; intro v' w' hown' hg'; have D5 := Lib.hid (D4.out.to hg' hown'); clear hown' hg')
      refine (pick_any R (m + 2 + 3 * k + 2) 40 _ D5.out.2.1 (by omega) (by omega)).mono ?_
      rintro e w6 ⟨p3, rfl, d0, d1, -, hr, hg⟩
      have D6 := Lib.hid (D5.out.pick hr hg)
      clear hr hg D5 d1
      obtain ⟨t4, ht4⟩ : ∃ t4, IntKind.i64.wrap (t3 + p3) = t4 := ⟨_, rfl⟩
      obtain ⟨tx, htx⟩ : ∃ tx, IntKind.i64.wrap (tv + 1) = tx := ⟨_, rfl⟩
      have hmz : ¬ (max 1 n = 0) := by omega
      go_wp2_with fail
      exact ⟨⟨k + 1, t4, tx.tmod (max 1 n), _, by omega, by omega, rfl, rfl, by push_cast; rfl, by rw [List.length_append, HL.out]; rfl, D6.out.mono (by omega)⟩, by simp only [intOf]; omega⟩
    · have hk2' : 2 ≤ k := by omega
      have hk5 : k ≤ 5 := by omega
      obtain ⟨A, c, rfl, -, hkc⟩ := HD.out.2.2.2.slc enc3_len HL.out
      obtain ⟨g, rfl, -, -, -, -⟩ := HD.out.2.2.2.form (by rw [HL.out]; omega)
      by_cases hc1 : (k : Int) < (M : Int)
      · have hc2 : ¬ (k : Int) < n := by omega
        clear hlt hk hkM
        by_cases hk2 : k = 2
        · subst hk2
          go_wp2_with fail
          refine (pick_any R (m + 2 + 3 * 2) 40 wr HD.out.2.1 (by omega) (by omega)).mono ?_
          rintro e w8 ⟨s8, rfl, -, -, -, hr, hg⟩
          have D8 := Lib.hid (HD.out.pick hr hg)
          clear hr hg
          have hfz := OwnE.frozen D8.out.2.2.2
          obtain ⟨x0, y0, z0, hp0, q0, q1, q2⟩ := D8.out.at_ HL.out (j := 0) (by omega)
          obtain ⟨x1, y1, z1, hp1, q3, q4, q5⟩ := D8.out.at_ HL.out (j := 1) (by omega)
          simp only [Nat.zero_mul, Nat.one_mul, Nat.zero_add, Nat.reduceAdd] at q0 q1 q2 q3 q4 q5
          clear hp0 hp1
          by_cases e0 : s8 = 0
          · obtain ⟨ys, hyl, hyd⟩ := D8.out.put 0 HL.out (j := 1) (by omega) (by omega) x0 (i := 3) rfl
            have D9 := Lib.hid hyd
            clear hyd
            go_wp2_with fail
            go_ret
            exact DrawnS.of D9.out (by omega) (by omega)
          by_cases e1 : s8 = 1
          · obtain ⟨ys, hyl, hyd⟩ := D8.out.put 1 HL.out (j := 1) (by omega) (by omega) z0 (i := 4) rfl
            have D9 := Lib.hid hyd
            clear hyd
            go_wp2_with fail
            go_ret
            exact DrawnS.of D9.out (by omega) (by omega)
          by_cases e2 : s8 = 2
          · have D9 := Lib.hid (D8.out.to (World.grownBy.refl w8 _) (OwnE.shrink enc3_len D8.out.2.2.2 HL.out (m := 1) (by omega)))
            go_wp2_with fail
            go_ret
            exact DrawnS.of D9.out (by rw [List.length_take]; omega) (by omega)
          by_cases e3 : s8 = 3
          · obtain ⟨ys, hyl, hyd⟩ := D8.out.put 1 HL.out (j := 0) (by omega) (by omega) (-1) (i := 1) rfl
            have D9 := Lib.hid hyd
            clear hyd
            go_wp2_with fail
            go_ret
            exact DrawnS.of D9.out (by omega) (by omega)
          · go_wp2_with fail
            go_ret
            exact DrawnS.of D8.out (by rw [HL.out]; omega) (by omega)
        have hk3 : (2 : Int) < (k : Int) := by omega
        go_wp2_with fail
        refine (pick_any R (m + 2 + 3 * k) 2 wr HD.out.2.1 (by omega) (by omega)).mono ?_
        rintro e w3 ⟨x2, rfl, a0, a1, -, hr, hg⟩
        have D3 := Lib.hid (HD.out.pick hr hg)
        clear hr hg HD a1
        by_cases hx2 : x2 = 0
        · go_wp2_with fail
          refine (pick_any R (m + 2 + 3 * k + 1) _ w3 D3.out.2.1 (by omega) (by omega)).mono ?_
          rintro e w4 ⟨y2, rfl, b0, b1, -, hr, hg⟩
          have b1 := b1 (by omega)
          have D4 := Lib.hid (D3.out.pick hr hg)
          clear hr hg D3
          obtain ⟨kk, hkk⟩ : ∃ kk : Nat, (kk : Int) = 1 + y2 := ⟨(1 + y2).toNat, by omega⟩
          have hw2 : IntKind.i64.wrap (1 + y2) = (kk : Int) := by rw [hkk]; exact IntWalk.i64_in _ (by omega)
          have hkz1 : (kk : Int) < (k : Int) := by omega
          have hkz2 : (0 : Int) ≤ (kk : Int) := by omega
          have hkz3 : kk < k := by omega
          have hkz4 : 1 ≤ kk := by omega
          clear hkk b0 b1
          have hfz := OwnE.frozen D4.out.2.2.2
          obtain ⟨x0, y0, z0, hp0, q0, q1, q2⟩ := D4.out.at_ HL.out (j := 0) (by omega)
          obtain ⟨x1, y1, z1, hp1, q3, q4, q5⟩ := D4.out.at_ HL.out hkz3
          simp only [Nat.zero_mul, Nat.zero_add] at q0 q1 q2
          obtain ⟨ys, hyl, hyd⟩ := D4.out.put 0 HL.out (j := 0) (by omega) (by omega) x1 (i := 0) rfl
          have HYL := Lib.hid hyl
          obtain ⟨zs, hzl, hzd⟩ := hyd.put 0 hyl hkz3 (by omega) x0 (i := kk * 3) rfl
          have HZL := Lib.hid hzl
          have HZD := Lib.hid hzd
          have hfy := OwnE.frozen hyd.2.2.2
          obtain ⟨x3, y3, z3, hp3, u3, u4, u5⟩ := hyd.at_ hyl hkz3
          clear hyd hzd hp0 hp1 hp3 hyl hzl
          go_wp2_with fail
          refine (pick_any R (m + 2 + 3 * k + 1 + 1) 40 _ HZD.out.2.1 (by omega) (by omega)).mono ?_
          rintro e w8 ⟨s8, rfl, -, -, -, hr, hg⟩
          have D8 := Lib.hid (HZD.out.pick hr hg)
          clear hr hg
          have hfz := OwnE.frozen D8.out.2.2.2
          obtain ⟨x0, y0, z0, hp0, q0, q1, q2⟩ := D8.out.at_ HZL.out (j := 0) (by omega)
          obtain ⟨x1, y1, z1, hp1, q3, q4, q5⟩ := D8.out.at_ HZL.out (j := 1) (by omega)
          simp only [Nat.zero_mul, Nat.one_mul, Nat.zero_add, Nat.reduceAdd] at q0 q1 q2 q3 q4 q5
          clear hp0 hp1
          by_cases e0 : s8 = 0
          · obtain ⟨ys, hyl, hyd⟩ := D8.out.put 0 HZL.out (j := 1) (by omega) (by omega) x0 (i := 3) rfl
            have D9 := Lib.hid hyd
            clear hyd
            go_wp2_with fail
            go_ret
            exact DrawnS.of D9.out (by omega) (by omega)
          by_cases e1 : s8 = 1
          · obtain ⟨ys, hyl, hyd⟩ := D8.out.put 1 HZL.out (j := 1) (by omega) (by omega) z0 (i := 4) rfl
            have D9 := Lib.hid hyd
            clear hyd
            go_wp2_with fail
            go_ret
            exact DrawnS.of D9.out (by omega) (by omega)
          by_cases e2 : s8 = 2
          · have D9 := Lib.hid (D8.out.to (World.grownBy.refl w8 _) (OwnE.shrink enc3_len D8.out.2.2.2 HZL.out (m := 1) (by omega)))
            go_wp2_with fail
            go_ret
            exact DrawnS.of D9.out (by rw [List.length_take]; omega) (by omega)
          by_cases e3 : s8 = 3
          · obtain ⟨ys, hyl, hyd⟩ := D8.out.put 1 HZL.out (j := 0) (by omega) (by omega) (-1) (i := 1) rfl
            have D9 := Lib.hid hyd
            clear hyd
            go_wp2_with fail
            go_ret
            exact DrawnS.of D9.out (by omega) (by omega)
          · go_wp2_with fail
            go_ret
            exact DrawnS.of D8.out (by rw [HZL.out]; omega) (by omega)
        · go_wp2_with fail
          refine (pick_any R (m + 2 + 3 * k + 1) 40 w3 D3.out.2.1 (by omega) (by omega)).mono ?_
          rintro e w8 ⟨s8, rfl, -, -, -, hr, hg⟩
          have D8 := Lib.hid (D3.out.pick hr hg)
          clear hr hg
          have hfz := OwnE.frozen D8.out.2.2.2
          obtain ⟨x0, y0, z0, hp0, q0, q1, q2⟩ := D8.out.at_ HL.out (j := 0) (by omega)
          obtain ⟨x1, y1, z1, hp1, q3, q4, q5⟩ := D8.out.at_ HL.out (j := 1) (by omega)
          simp only [Nat.zero_mul, Nat.one_mul, Nat.zero_add, Nat.reduceAdd] at q0 q1 q2 q3 q4 q5
          clear hp0 hp1
          by_cases e0 : s8 = 0
          · obtain ⟨ys, hyl, hyd⟩ := D8.out.put 0 HL.out (j := 1) (by omega) (by omega) x0 (i := 3) rfl
            have D9 := Lib.hid hyd
            clear hyd
            go_wp2_with fail
            go_ret
            exact DrawnS.of D9.out (by omega) (by omega)
          by_cases e1 : s8 = 1
          · obtain ⟨ys, hyl, hyd⟩ := D8.out.put 1 HL.out (j := 1) (by omega) (by omega) z0 (i := 4) rfl
            have D9 := Lib.hid hyd
            clear hyd
            go_wp2_with fail
            go_ret
            exact DrawnS.of D9.out (by omega) (by omega)
          by_cases e2 : s8 = 2
          · have D9 := Lib.hid (D8.out.to (World.grownBy.refl w8 _) (OwnE.shrink enc3_len D8.out.2.2.2 HL.out (m := 1) (by omega)))
            go_wp2_with fail
            go_ret
            exact DrawnS.of D9.out (by rw [List.length_take]; omega) (by omega)
          by_cases e3 : s8 = 3
          · obtain ⟨ys, hyl, hyd⟩ := D8.out.put 1 HL.out (j := 0) (by omega) (by omega) (-1) (i := 1) rfl
            have D9 := Lib.hid hyd
            clear hyd
            go_wp2_with fail
            go_ret
            exact DrawnS.of D9.out (by omega) (by omega)
          · go_wp2_with fail
            go_ret
            exact DrawnS.of D8.out (by rw [HL.out]; omega) (by omega)
      · clear hlt hk hkM
        by_cases hk2 : k = 2
        · subst hk2
          go_wp2_with fail
          refine (pick_any R (m + 2 + 3 * 2) 40 wr HD.out.2.1 (by omega) (by omega)).mono ?_
          rintro e w8 ⟨s8, rfl, -, -, -, hr, hg⟩
          have D8 := Lib.hid (HD.out.pick hr hg)
          clear hr hg
          have hfz := OwnE.frozen D8.out.2.2.2
          obtain ⟨x0, y0, z0, hp0, q0, q1, q2⟩ := D8.out.at_ HL.out (j := 0) (by omega)
          obtain ⟨x1, y1, z1, hp1, q3, q4, q5⟩ := D8.out.at_ HL.out (j := 1) (by omega)
          simp only [Nat.zero_mul, Nat.one_mul, Nat.zero_add, Nat.reduceAdd] at q0 q1 q2 q3 q4 q5
          clear hp0 hp1
          by_cases e0 : s8 = 0
          · obtain ⟨ys, hyl, hyd⟩ := D8.out.put 0 HL.out (j := 1) (by omega) (by omega) x0 (i := 3) rfl
            have D9 := Lib.hid hyd
            clear hyd
            go_wp2_with fail
            go_ret
            exact DrawnS.of D9.out (by omega) (by omega)
          by_cases e1 : s8 = 1
          · obtain ⟨ys, hyl, hyd⟩ := D8.out.put 1 HL.out (j := 1) (by omega) (by omega) z0 (i := 4) rfl
            have D9 := Lib.hid hyd
            clear hyd
            go_wp2_with fail
            go_ret
            exact DrawnS.of D9.out (by omega) (by omega)
          by_cases e2 : s8 = 2
          · have D9 := Lib.hid (D8.out.to (World.grownBy.refl w8 _) (OwnE.shrink enc3_len D8.out.2.2.2 HL.out (m := 1) (by omega)))
            go_wp2_with fail
            go_ret
            exact DrawnS.of D9.out (by rw [List.length_take]; omega) (by omega)
          by_cases e3 : s8 = 3
          · obtain ⟨ys, hyl, hyd⟩ := D8.out.put 1 HL.out (j := 0) (by omega) (by omega) (-1) (i := 1) rfl
            have D9 := Lib.hid hyd
            clear hyd
            go_wp2_with fail
            go_ret
            exact DrawnS.of D9.out (by omega) (by omega)
          · go_wp2_with fail
            go_ret
            exact DrawnS.of D8.out (by rw [HL.out]; omega) (by omega)
        have hk3 : (2 : Int) < (k : Int) := by omega
        go_wp2_with fail
        refine (pick_any R (m + 2 + 3 * k) 2 wr HD.out.2.1 (by omega) (by omega)).mono ?_
        rintro e w3 ⟨x2, rfl, a0, a1, -, hr, hg⟩
        have D3 := Lib.hid (HD.out.pick hr hg)
        clear hr hg HD a1
        by_cases hx2 : x2 = 0
        · go_wp2_with fail
          refine (pick_any R (m + 2 + 3 * k + 1) _ w3 D3.out.2.1 (by omega) (by omega)).mono ?_
          rintro e w4 ⟨y2, rfl, b0, b1, -, hr, hg⟩
          have b1 := b1 (by omega)
          have D4 := Lib.hid (D3.out.pick hr hg)
          clear hr hg D3
          obtain ⟨kk, hkk⟩ : ∃ kk : Nat, (kk : Int) = 1 + y2 := ⟨(1 + y2).toNat, by omega⟩
          have hw2 : IntKind.i64.wrap (1 + y2) = (kk : Int) := by rw [hkk]; exact IntWalk.i64_in _ (by omega)
          have hkz1 : (kk : Int) < (k : Int) := by omega
          have hkz2 : (0 : Int) ≤ (kk : Int) := by omega
          have hkz3 : kk < k := by omega
          have hkz4 : 1 ≤ kk := by omega
          clear hkk b0 b1
          have hfz := OwnE.frozen D4.out.2.2.2
          obtain ⟨x0, y0, z0, hp0, q0, q1, q2⟩ := D4.out.at_ HL.out (j := 0) (by omega)
          obtain ⟨x1, y1, z1, hp1, q3, q4, q5⟩ := D4.out.at_ HL.out hkz3
          simp only [Nat.zero_mul, Nat.zero_add] at q0 q1 q2
          obtain ⟨ys, hyl, hyd⟩ := D4.out.put 0 HL.out (j := 0) (by omega) (by omega) x1 (i := 0) rfl
          have HYL := Lib.hid hyl
          obtain ⟨zs, hzl, hzd⟩ := hyd.put 0 hyl hkz3 (by omega) x0 (i := kk * 3) rfl
          have HZL := Lib.hid hzl
          have HZD := Lib.hid hzd
          have hfy := OwnE.frozen hyd.2.2.2
          obtain ⟨x3, y3, z3, hp3, u3, u4, u5⟩ := hyd.at_ hyl hkz3
          clear hyd hzd hp0 hp1 hp3 hyl hzl
          go_wp2_with fail
          refine (pick_any R (m + 2 + 3 * k + 1 + 1) 40 _ HZD.out.2.1 (by omega) (by omega)).mono ?_
          rintro e w8 ⟨s8, rfl, -, -, -, hr, hg⟩
          have D8 := Lib.hid (HZD.out.pick hr hg)
          clear hr hg
          have hfz := OwnE.frozen D8.out.2.2.2
          obtain ⟨x0, y0, z0, hp0, q0, q1, q2⟩ := D8.out.at_ HZL.out (j := 0) (by omega)
          obtain ⟨x1, y1, z1, hp1, q3, q4, q5⟩ := D8.out.at_ HZL.out (j := 1) (by omega)
          simp only [Nat.zero_mul, Nat.one_mul, Nat.zero_add, Nat.reduceAdd] at q0 q1 q2 q3 q4 q5
          clear hp0 hp1
          by_cases e0 : s8 = 0
          · obtain ⟨ys, hyl, hyd⟩ := D8.out.put 0 HZL.out (j := 1) (by omega) (by omega) x0 (i := 3) rfl
            have D9 := Lib.hid hyd
            clear hyd
            go_wp2_with fail
            go_ret
            exact DrawnS.of D9.out (by omega) (by omega)
          by_cases e1 : s8 = 1
          · obtain ⟨ys, hyl, hyd⟩ := D8.out.put 1 HZL.out (j := 1) (by omega) (by omega) z0 (i := 4) rfl
            have D9 := Lib.hid hyd
            clear hyd
            go_wp2_with fail
            go_ret
            exact DrawnS.of D9.out (by omega) (by omega)
          by_cases e2 : s8 = 2
          · have D9 := Lib.hid (D8.out.to (World.grownBy.refl w8 _) (OwnE.shrink enc3_len D8.out.2.2.2 HZL.out (m := 1) (by omega)))
            go_wp2_with fail
            go_ret
            exact DrawnS.of D9.out (by rw [List.length_take]; omega) (by omega)
          by_cases e3 : s8 = 3
          · obtain ⟨ys, hyl, hyd⟩ := D8.out.put 1 HZL.out (j := 0) (by omega) (by omega) (-1) (i := 1) rfl
            have D9 := Lib.hid hyd
            clear hyd
            go_wp2_with fail
            go_ret
            exact DrawnS.of D9.out (by omega) (by omega)
          · go_wp2_with fail
            go_ret
            exact DrawnS.of D8.out (by rw [HZL.out]; omega) (by omega)
        · go_wp2_with fail
          refine (pick_any R (m + 2 + 3 * k + 1) 40 w3 D3.out.2.1 (by omega) (by omega)).mono ?_
          rintro e w8 ⟨s8, rfl, -, -, -, hr, hg⟩
          have D8 := Lib.hid (D3.out.pick hr hg)
          clear hr hg
          have hfz := OwnE.frozen D8.out.2.2.2
          obtain ⟨x0, y0, z0, hp0, q0, q1, q2⟩ := D8.out.at_ HL.out (j := 0) (by omega)
          obtain ⟨x1, y1, z1, hp1, q3, q4, q5⟩ := D8.out.at_ HL.out (j := 1) (by omega)
          simp only [Nat.zero_mul, Nat.one_mul, Nat.zero_add, Nat.reduceAdd] at q0 q1 q2 q3 q4 q5
          clear hp0 hp1
          by_cases e0 : s8 = 0
          · obtain ⟨ys, hyl, hyd⟩ := D8.out.put 0 HL.out (j := 1) (by omega) (by omega) x0 (i := 3) rfl
            have D9 := Lib.hid hyd
            clear hyd
            go_wp2_with fail
            go_ret
            exact DrawnS.of D9.out (by omega) (by omega)
          by_cases e1 : s8 = 1
          · obtain ⟨ys, hyl, hyd⟩ := D8.out.put 1 HL.out (j := 1) (by omega) (by omega) z0 (i := 4) rfl
            have D9 := Lib.hid hyd
            clear hyd
            go_wp2_with fail
            go_ret
            exact DrawnS.of D9.out (by omega) (by omega)
          by_cases e2 : s8 = 2
          · have D9 := Lib.hid (D8.out.to (World.grownBy.refl w8 _) (OwnE.shrink enc3_len D8.out.2.2.2 HL.out (m := 1) (by omega)))
            go_wp2_with fail
            go_ret
            exact DrawnS.of D9.out (by rw [List.length_take]; omega) (by omega)
          by_cases e3 : s8 = 3
          · obtain ⟨ys, hyl, hyd⟩ := D8.out.put 1 HL.out (j := 0) (by omega) (by omega) (-1) (i := 1) rfl
            have D9 := Lib.hid hyd
            clear hyd
            go_wp2_with fail
            go_ret
            exact DrawnS.of D9.out (by omega) (by omega)
          · go_wp2_with fail
            go_ret
            exact DrawnS.of D8.out (by rw [HL.out]; omega) (by omega)
end Go.Proofs.YtgjllminidlolaaGreatDoor
/- Contracts: the draw of a script: texts of any numbers, a text many times, one of a list, the line of a coach. -/
set_option linter.unusedVariables false
namespace Go.Proofs.YtgjllminidlolaaGreatDoor
open Go.RowKit

/-- A short text has been made. -/
def SomeStr (k : Nat) (w : World) (e : Ending) (w' : World) : Prop := ∃ s : ByteArray, e = .returned (.string s) ∧ s.size ≤ k ∧ Below w.heap.size w w'
theorem SomeStr.mono {k l : Nat} {w w' : World} {e : Ending} (h : SomeStr k w e w') (hk : k ≤ l) : SomeStr l w e w' := by
  obtain ⟨s, h1, h2, h3⟩ := h
  exact ⟨s, h1, Nat.le_trans h2 hk, h3⟩
theorem add_some (x y : ByteArray) {a b : Nat} (hx : x.size ≤ a) (hy : y.size ≤ b) (h : a + b ≤ 100000000) : ∃ t : ByteArray, t.size ≤ a + b ∧ ∀ W, (Op.stringOp .add x y).run Tryz.prog W = .ok (.string t) W := by
  refine ⟨x ++ y, by rw [ByteArray.size_append]; omega, fun W => ?_⟩
  exact run_string_add_sum (P := Tryz.prog) (w := W) x y (by omega)
theorem wrap_range (z : Int) : -9223372036854775808 ≤ IntKind.i64.wrap z ∧ IntKind.i64.wrap z ≤ 9223372036854775807 := by
  rw [IntKind.wrap_i64]
  omega
set_option maxRecDepth 20000 in
set_option maxHeartbeats 1600000 in
theorem l6Dec_great : ∀ (n : Nat) (w : World), n ≤ 9223372036854775807 →
    Calls Tryz.prog 41 #[.int .i64 n] w (Only (.string (bs (Lib.decDigits n))) w) := by
  intro n
  induction n using Nat.strongRecOn with
  | _ n ih =>
    intro w hn
    have i7 : ¬ (n : Int) < -9223372036854775807 := by omega
    have i8 : ¬ (n : Int) < 0 := by omega
    by_cases h : n < 10
    · have hconv : (convert 22 9 (.slice (some ⟨w.heap.size, 0, none⟩) 1 1)).run Tryz.prog (w.alloc (.cells #[.int .u8 (48 + (n : Int))] 5)) = .ok (.string (bs (Lib.decDigits n))) (w.alloc (.cells #[.int .u8 (48 + (n : Int))] 5)) := by
        rw [dec_small h, ← digit_byte n h]
        exact conv_byte (by simp)
      have i0 : (n : Int) < 10 := by omega
      have HB := Lib.hid (below_alloc (Below.refl w.heap.size w) (.cells #[.int .u8 (48 + (n : Int))] 5))
      clear ih
      generalize bs (Lib.decDigits n) = T at *
      go_enter Tryz.func41, Tryz.ntmps41
      go_wp2_with fail
      go_ret
      exact ⟨rfl, HB.out⟩
    · have i0 : ¬ (n : Int) < 10 := by omega
      obtain ⟨q, hq⟩ : ∃ q, n / 10 = q := ⟨_, rfl⟩
      obtain ⟨r, hr⟩ : ∃ r, n % 10 = r := ⟨_, rfl⟩
      have hr10 : r < 10 := by omega
      have q1 : (n : Int) / 10 = (q : Int) := by omega
      have r1 : (n : Int) % 10 = (r : Int) := by omega
      have q2 : Int.tdiv (n : Int) 10 = (q : Int) := by rw [Int.tdiv_eq_ediv_of_nonneg (by omega)]; exact q1
      have r2 : Int.tmod (n : Int) 10 = (r : Int) := by rw [Int.tmod_eq_emod_of_nonneg (by omega)]; exact r1
      have wr1 : IntKind.i64.wrap (q : Int) = (q : Int) := IntWalk.i64_in _ (by omega)
      have wr2 : IntKind.i64.wrap (48 + (r : Int)) = 48 + (r : Int) := IntWalk.i64_in _ (by omega)
      have wr3 : IntKind.u8.wrap (48 + (r : Int)) = 48 + (r : Int) := IntWalk.u8_in _ (by omega)
      have IH := Lib.hid (fun W => ih q (by omega) W (by omega))
      have hl := decDigits_len 19 q (by omega) (by omega)
      have hconv : ∀ (W : World) (b : Nat), W.cell? ⟨b, 0, none⟩ = some (.int .u8 (48 + (r : Int))) → (convert 22 9 (.slice (some ⟨b, 0, none⟩) 1 1)).run Tryz.prog W = .ok (.string (bs [UInt8.ofNat (48 + r)])) W := fun W b hc => by
        rw [← digit_byte r hr10]
        exact conv_byte hc
      have hadd : ∀ W, (Op.stringOp .add (bs (Lib.decDigits q)) (bs [UInt8.ofNat (48 + r)])).run Tryz.prog W = .ok (.string (bs (Lib.decDigits n))) W := fun W => by
        rw [dec_large h, hq, hr]
        exact add_lists _ _ (by omega) (by simp) W
      clear ih hq hr
      generalize bs (Lib.decDigits n) = T at *
      generalize bs (Lib.decDigits q) = TQ at *
      generalize bs [UInt8.ofNat (48 + r)] = TR at *
      go_enter Tryz.func41, Tryz.ntmps41
      go_wp2_with fail
      have HCW := Lib.hid (show (w.alloc (.cells #[.int .u8 (48 + (r : Int))] 5)).drew.cell? ⟨w.heap.size, 0, none⟩ = some (.int .u8 (48 + (r : Int))) by simp)
      have HB0 := Lib.hid (below_drew (below_alloc (Below.refl w.heap.size w) (.cells #[.int .u8 (48 + (r : Int))] 5)))
      have HB1 := Lib.hid (below_drew (Below.refl w.heap.size w))
      go_region_with (first
        | (go_at_call 41; (with_reducible_and_instances refine (IH.out (w.alloc (.cells #[.int .u8 (48 + (r : Int))] 5)).drew).mono ?_); rintro e w2 ⟨rfl, hb2⟩; have HB2 := Lib.hid (below_trans HB0.out hb2); have hc2 := cell_below hb2 HCW.out; clear hb2)
        | (go_at_call 41; (with_reducible_and_instances refine (IH.out w.drew).mono ?_); rintro e w2 ⟨rfl, hb2⟩; have HB2 := Lib.hid (below_alloc (below_trans HB1.out hb2) (.cells #[.int .u8 (48 + (r : Int))] 5)); clear hb2))
      all_goals (go_wp2_with fail; go_ret; exact ⟨rfl, HB2.out⟩)
theorem l6Dec_from0 {x : Int} (h0 : 0 ≤ x) (h1 : x ≤ 9223372036854775807) (w : World) : Calls Tryz.prog 41 #[.int .i64 x] w (SomeStr 19 w) := by
  obtain ⟨n, rfl⟩ : ∃ n : Nat, x = n := ⟨x.toNat, by omega⟩
  refine (l6Dec_great n w (by omega)).mono ?_
  rintro e w' ⟨rfl, hb⟩
  exact ⟨_, rfl, by rw [bs_size]; exact decDigits_len 19 n (by omega) (by omega), hb⟩
set_option maxRecDepth 20000 in
set_option maxHeartbeats 800000 in
theorem l6Dec_in {x : Int} (h0 : -9223372036854775808 ≤ x) (h1 : x ≤ 9223372036854775807) (w : World) : Calls Tryz.prog 41 #[.int .i64 x] w (SomeStr 20 w) := by
  by_cases hp : 0 ≤ x
  · exact (l6Dec_from0 hp h1 w).mono fun e w' h => h.mono (by omega)
  by_cases hm : x < -9223372036854775807
  · clear hp h0 h1
    go_enter Tryz.func41, Tryz.ntmps41
    go_wp2_with fail
    go_ret
    exact ⟨_, rfl, by decide, Below.refl _ _⟩
  have hw : IntKind.i64.wrap (-x) = -x := IntWalk.i64_in _ (by omega)
  have hn : x < 0 := by omega
  have HD := Lib.hid (fun W => l6Dec_from0 (x := -x) (by omega) (by omega) W)
  obtain ⟨y, hy⟩ : ∃ y, -x = y := ⟨_, rfl⟩
  rw [hy] at HD hw
  clear h0 h1 hp
  go_enter Tryz.func41, Tryz.ntmps41
  go_wp2_with fail
  refine (HD.out _).mono ?_
  rintro e w2 ⟨s, rfl, hs, hb2⟩
  obtain ⟨t, ht, had⟩ := add_some ⟨#[45]⟩ s (a := 1) (b := 19) (by decide) hs (by omega)
  have HT := Lib.hid ht
  have HB2 := Lib.hid hb2
  clear hb2 ht hs
  go_wp2_with fail
  go_ret
  exact ⟨t, rfl, HT.out, HB2.out⟩
set_option maxRecDepth 20000 in
set_option maxHeartbeats 1600000 in
theorem l6Dec_all (x : Int) (w : World) : Calls Tryz.prog 41 #[.int .i64 x] w (SomeStr 21 w) := by
  by_cases hi : x ≤ 9223372036854775807
  · by_cases hl : -9223372036854775808 ≤ x
    · exact (l6Dec_in hl hi w).mono fun e w' h => h.mono (by omega)
    · have hm : x < -9223372036854775807 := by omega
      clear hi hl
      go_enter Tryz.func41, Tryz.ntmps41
      go_wp2_with fail
      go_ret
      exact ⟨_, rfl, by decide, Below.refl _ _⟩
  have i7 : ¬ x < -9223372036854775807 := by omega
  have i8 : ¬ x < 0 := by omega
  have i9 : ¬ x < 10 := by omega
  obtain ⟨z, hz⟩ : ∃ z, x / 10 = z := ⟨_, rfl⟩
  obtain ⟨r, hr⟩ : ∃ r, x % 10 = r := ⟨_, rfl⟩
  have r0 : 0 ≤ r ∧ r ≤ 9 := by omega
  have z2 : Int.tdiv x 10 = z := by rw [Int.tdiv_eq_ediv_of_nonneg (by omega)]; exact hz
  have r2 : Int.tmod x 10 = r := by rw [Int.tmod_eq_emod_of_nonneg (by omega)]; exact hr
  obtain ⟨q, hq⟩ : ∃ q, IntKind.i64.wrap z = q := ⟨_, rfl⟩
  have hqb := wrap_range z
  rw [hq] at hqb
  have wr1 : IntKind.i64.wrap r = r := IntWalk.i64_in _ (by omega)
  have wr2 : IntKind.i64.wrap (48 + r) = 48 + r := IntWalk.i64_in _ (by omega)
  have wr3 : IntKind.u8.wrap (48 + r) = 48 + r := IntWalk.u8_in _ (by omega)
  have HD := Lib.hid (fun W => l6Dec_in hqb.1 hqb.2 W)
  have hconv : ∀ (W : World) (b : Nat), W.cell? ⟨b, 0, none⟩ = some (.int .u8 (48 + r)) → (convert 22 9 (.slice (some ⟨b, 0, none⟩) 1 1)).run Tryz.prog W = .ok (.string (bs [UInt8.ofNat (48 + r).toNat])) W := fun W b hc => conv_byte hc
  have HZ := Lib.hid (show (bs [UInt8.ofNat (48 + r).toNat]).size ≤ 1 from Nat.le_refl _)
  generalize bs [UInt8.ofNat (48 + r).toNat] = TR at *
  clear hi hqb r0
  have HCW := Lib.hid (show (w.alloc (.cells #[.int .u8 (48 + r)] 5)).drew.cell? ⟨w.heap.size, 0, none⟩ = some (.int .u8 (48 + r)) by simp)
  have HB0 := Lib.hid (below_drew (below_alloc (Below.refl w.heap.size w) (.cells #[.int .u8 (48 + r)] 5)))
  have HB1 := Lib.hid (below_drew (Below.refl w.heap.size w))
  go_enter Tryz.func41, Tryz.ntmps41
  go_wp2_with fail
  go_region_with (first
    | (go_at_call 41; (with_reducible_and_instances refine (HD.out (w.alloc (.cells #[.int .u8 (48 + r)] 5)).drew).mono ?_); rintro e w2 ⟨s, rfl, hs, hb2⟩; have HB2 := Lib.hid (below_trans HB0.out hb2); have hc2 := cell_below hb2 HCW.out; obtain ⟨t, ht, had⟩ := add_some s TR hs HZ.out (by omega); have HT := Lib.hid ht; clear hb2 hs ht)
    | (go_at_call 41; (with_reducible_and_instances refine (HD.out w.drew).mono ?_); rintro e w2 ⟨s, rfl, hs, hb2⟩; have HB2 := Lib.hid (below_alloc (below_trans HB1.out hb2) (.cells #[.int .u8 (48 + r)] 5)); obtain ⟨t, ht, had⟩ := add_some s TR hs HZ.out (by omega); have HT := Lib.hid ht; clear hb2 hs ht))
  all_goals (go_wp2_with fail; go_ret; exact ⟨t, rfl, HT.out, HB2.out⟩)
set_option maxRecDepth 20000 in
set_option maxHeartbeats 1600000 in
theorem l6Many_any (w : World) :
    Calls Tryz.prog 34 #[.string ⟨#[115, 101, 97, 116, 115, 10]⟩, .int .i64 90] w (SomeStr 540 w) := by
  go_enter Tryz.func34, Tryz.ntmps34
  go_wp2_with fail
  go_loop [0, 1, 5] (fun s n v => ∃ (x y : ByteArray) (k : Nat), s = .string x ∧ n = .int .i64 k ∧ v = .string y ∧ y.size + k * x.size ≤ 540 ∧ k ≤ 90) (fun _ n _ => (intOf n).toNat)
  case atStart => exact ⟨_, _, 90, rfl, rfl, rfl, by decide, by omega⟩
  case round =>
    obtain ⟨x, y, k, rfl, rfl, rfl, hs, hk⟩ := hrel
    have HS := Lib.hid hs
    by_cases hk0 : k = 0
    · subst hk0
      have HY := Lib.hid (show y.size ≤ 540 by omega)
      clear hs
      go_wp2_with fail
      go_ret
      exact ⟨y, rfl, HY.out, Below.refl _ _⟩
    have hkp : (0 : Int) < (k : Int) := by omega
    have hx : x.size ≤ 540 := by
      have : 1 * x.size ≤ k * x.size := Nat.mul_le_mul_right _ (by omega)
      omega
    have hy : y.size ≤ 540 := by omega
    obtain ⟨q, hq⟩ : ∃ q, k / 2 = q := ⟨_, rfl⟩
    have q2 : Int.tdiv (k : Int) 2 = (q : Int) := by rw [Int.tdiv_eq_ediv_of_nonneg (by omega)]; omega
    have q1 : (k : Int) / 2 = (q : Int) := by omega
    have wq : IntKind.i64.wrap (q : Int) = (q : Int) := IntWalk.i64_in _ (by omega)
    have had2 : ∀ W, (Op.stringOp .add x x).run Tryz.prog W = .ok (.string (x ++ x)) W := fun W => run_string_add_sum (P := Tryz.prog) (w := W) x x (by omega)
    have had1 : ∀ W, (Op.stringOp .add y x).run Tryz.prog W = .ok (.string (y ++ x)) W := fun W => run_string_add_sum (P := Tryz.prog) (w := W) y x (by omega)
    have hkk : k = 2 * q + k % 2 := by omega
    have hm : k * x.size = q * (x.size + x.size) + (k % 2) * x.size := by
      conv => lhs; rw [hkk]
      rw [Nat.add_mul, Nat.mul_add, Nat.mul_assoc, Nat.two_mul]
    by_cases hodd : k % 2 = 1
    · have f1 : ((k : Int) % 2 == 1) = true := by simp; omega
      have f2 : ((k : Int).tmod 2 == 1) = true := by rw [Int.tmod_eq_emod_of_nonneg (by omega)]; exact f1
      have HN := Lib.hid (show (y ++ x).size + q * (x ++ x).size ≤ 540 by
        rw [ByteArray.size_append, ByteArray.size_append]
        rw [hodd, Nat.one_mul] at hm
        omega)
      clear hs hx hy hkk hm hodd
      generalize x ++ x = x2 at *
      generalize y ++ x = y2 at *
      go_wp2_with fail
      go_round
      case rel => exact ⟨x2, y2, q, rfl, by go_num, rfl, HN.out, by omega⟩
      case measure => simp [intOf]; omega
    · have f1 : ((k : Int) % 2 == 1) = false := by simp; omega
      have f2 : ((k : Int).tmod 2 == 1) = false := by rw [Int.tmod_eq_emod_of_nonneg (by omega)]; exact f1
      have HN := Lib.hid (show y.size + q * (x ++ x).size ≤ 540 by
        rw [ByteArray.size_append]
        omega)
      clear hs hx hy hkk hm hodd had1
      generalize x ++ x = x2 at *
      go_wp2_with fail
      go_round
      case rel => exact ⟨x2, y, q, rfl, by go_num, rfl, HN.out, by omega⟩
      case measure => simp [intOf]; omega
/-- A short text has been drawn. -/
def DrewStr (k : Nat) (w : World) (R m : Nat) (e : Ending) (w' : World) : Prop := ∃ s : ByteArray, e = .returned (.string s) ∧ s.size ≤ k ∧ RdAt w' R m ∧ w.grownBy w' (some R)
set_option maxRecDepth 20000 in
set_option maxHeartbeats 1600000 in
theorem of_any (R m g n c : Nat) (xs : List ByteArray) (w : World) (h : RdAt w R m) (hm : m ≤ 100000) (hs : SlE 1 encS w (some ⟨g, 0, none⟩) n xs) (hg : g ≠ R) (hn : 1 ≤ n) (hn2 : n ≤ 100) (hx : ∀ x ∈ xs, x.size ≤ 20) :
    Calls Tryz.prog 63 #[.pointer (some ⟨R, 0, none⟩), .slice (some ⟨g, 0, none⟩) n c] w (DrewStr 20 w R (m + 1)) := by
  have HS := Lib.hid hs
  have HX := Lib.hid hx
  have HP := Lib.hid (pick_any R m (n : Int) w h hm (by omega))
  clear h hs hx
  go_enter Tryz.func63, Tryz.ntmps63
  go_wp2_with fail
  refine HP.out.mono ?_
  rintro e w1 ⟨x, rfl, a0, a1, -, hr, hgr⟩
  have a1 := a1 (by omega)
  obtain ⟨x, rfl⟩ : ∃ k : Nat, x = k := ⟨x.toNat, by omega⟩
  have S1 := HS.out.grown hgr (fun e => hg (by injection e with e; exact e.symm))
  obtain ⟨b, off, p, hA, hbl, hp, -, g0⟩ := atS S1 (Below.refl _ _) (show x < n by omega)
  injection hA with hA
  injection hA with e1 e2
  subst e1 e2
  have HZ := Lib.hid (HX.out p (List.mem_of_getElem? hp))
  have HR := Lib.hid (And.intro hr hgr)
  rw [Nat.zero_add] at g0
  clear hr hgr S1 hp hbl HP
  go_wp2_with fail
  go_ret
  exact ⟨p, rfl, HZ.out, HR.out.1, HR.out.2⟩
set_option maxRecDepth 20000 in
set_option maxHeartbeats 6400000 in
theorem l92Coach_any (R m : Nat) (w : World) (h : RdAt w R m) (hm : m ≤ 40000) :
    Calls Tryz.prog 64 #[.pointer (some ⟨R, 0, none⟩)] w (DrewStr 300 w R (m + 41)) := by
  have hRw := h.lt
  have HP := Lib.hid (pick_any R m 60 w h (by omega) (by omega))
  clear h
  go_enter Tryz.func64, Tryz.ntmps64
  go_wp2_with fail
  refine HP.out.mono ?_
  rintro e w1 ⟨x1, rfl, -, -, -, hr1, hg1⟩
  have G1 := Lib.hid hg1
  have HST := Lib.hid (l91Stops_any R (m + 1) 6 x1 w1 hr1 (by omega) (by omega) (by omega))
  clear hr1 hg1 HP
  go_wp2_with fail
  refine HST.out.mono ?_
  rintro e w2 ⟨v, xs, rfl, hl, hd⟩
  obtain ⟨A, c, rfl, hsl, -⟩ := hd.2.2.2.slc enc3_len rfl
  obtain ⟨len, hlen⟩ : ∃ len, xs.length = len := ⟨_, rfl⟩
  rw [hlen] at hsl hl ⊢
  have S2 := Lib.hid hsl
  have R2 := Lib.hid (show RdAt w2 R (m + 41) from hd.2.1.mono (by omega))
  have G2 := Lib.hid (grown_trans G1.out hd.2.2.1)
  clear hd hsl hlen HST G1
  obtain ⟨W2, rfl⟩ : ∃ W, W = w2 := ⟨_, rfl⟩
  go_wp2_with fail
  go_loopw [3, 5] (fun s i wr => ∃ (j : Nat) (t : ByteArray), j ≤ len ∧ j ≤ 3 ∧ i = .int .i64 j ∧ s = .string t ∧ t.size ≤ 5 + 66 * j ∧ Below W2.heap.size W2 wr) (fun _ i _ => len - (intOf i).toNat)
  case atStart => exact ⟨0, _, by omega, by omega, rfl, rfl, by decide, Below.refl _ _⟩
  case round =>
    obtain ⟨j, t, hj, hj3, rfl, rfl, ht, hbr⟩ := hrel
    have HR := Lib.hid hbr
    have HT := Lib.hid ht
    clear hbr ht
    by_cases hjl : j < len ∧ j < 3
    · obtain ⟨hj1, hj2⟩ := hjl
      have i1 : (j : Int) < (len : Int) := by omega
      have i2 : (j : Int) < 3 := by omega
      have i3 : (0 : Int) ≤ (j : Int) := by omega
      obtain ⟨b, off, x, y, z, rfl, hbl, hx, -, g0, g1, g2⟩ := at3 S2.out HR.out hj1
      have HC0 := Lib.hid (show wr.drew.cell? ⟨b, off + j * 3, none⟩ = some (.int .i64 x) ∧ wr.drew.cell? ⟨b, off + j * 3 + 1, none⟩ = some (.int .i64 y) ∧ wr.drew.cell? ⟨b, off + j * 3 + 2, none⟩ = some (.int .i64 z) from ⟨g0, g1, g2⟩)
      have B1 := Lib.hid (below_drew (Below.refl wr.heap.size wr))
      have HD1 := Lib.hid (fun W => l6Dec_all x W)
      have HD2 := Lib.hid (fun W => l6Dec_all y W)
      have HD3 := Lib.hid (fun W => l6Dec_all z W)
      obtain ⟨t0, ht0, had0⟩ := add_some t ⟨#[32]⟩ (b := 1) HT.out (by decide) (by omega)
      have H0 := Lib.hid ht0
      clear hx ht0
      go_wp2_with fail
      go_region_held3 (fun w' => w'.cell? ⟨b, off + j * 3, none⟩ = some (.int .i64 x) ∧ w'.cell? ⟨b, off + j * 3 + 1, none⟩ = some (.int .i64 y) ∧ w'.cell? ⟨b, off + j * 3 + 2, none⟩ = some (.int .i64 z))
        (first | exact HC0.out | exact CZ2.out | exact CZ3.out | exact CZ4.out | fail)
        (first
          | (go_at_call 41; have HQ := HB3; (with_reducible_and_instances refine (HD3.out _).mono ?_); rintro e w4 ⟨s3, rfl, hs3, hb4⟩; have HB4 := Lib.hid (below_trans HB3.out hb4); have CZ4 := Lib.hid (cells3_below hb4 CZ3.out); obtain ⟨t5, ht5, had5⟩ := add_some t4 s3 H4.out hs3 (by omega); have H5 := Lib.hid ht5; clear hb4 hs3 ht5)
          | (go_at_call 41; have HQ := HBQ; (with_reducible_and_instances refine (HD2.out _).mono ?_); rintro e w3 ⟨s2, rfl, hs2, hb3⟩; have HB3 := Lib.hid (below_trans HBQ.out hb3); have CZ3 := Lib.hid (cells3_below hb3 CZ2.out); obtain ⟨t3, ht3, had3⟩ := add_some t2 s2 H2.out hs2 (by omega); obtain ⟨t4, ht4, had4⟩ := add_some t3 ⟨#[32]⟩ (b := 1) ht3 (by decide) (by omega); have H4 := Lib.hid ht4; clear hb3 hs2 ht3 ht4)
          | (go_at_call 41; (with_reducible_and_instances refine (HD1.out _).mono ?_); rintro e w2 ⟨s1, rfl, hs1, hb2⟩; have HBQ := Lib.hid (below_trans B1.out hb2); have CZ2 := Lib.hid (cells3_below hb2 HC0.out); obtain ⟨t1, ht1, had1⟩ := add_some t0 s1 H0.out hs1 (by omega); obtain ⟨t2, ht2, had2⟩ := add_some t1 ⟨#[32]⟩ (b := 1) ht1 (by decide) (by omega); have H2 := Lib.hid ht2; clear hb2 hs1 ht1 ht2)
          | fail)
      go_wp2_with fail
      go_roundw
      case rel => exact ⟨j + 1, t5, by omega, by omega, by go_num, rfl, by have := H5.out; omega, HR.out.trans (HB4.out.mono HR.out.size)⟩
      case measure => simp [intOf]; omega
    · have HZ := Lib.hid (show t.size ≤ 300 by have := HT.out; omega)
      by_cases h1 : j < len
      · have i1 : (j : Int) < (len : Int) := by omega
        have i2 : ¬ (j : Int) < 3 := by omega
        clear hjl
        go_wp2_with fail
        go_ret
        exact ⟨t, rfl, HZ.out, R2.out.below HR.out (Nat.le_refl _), grown_below G2.out HR.out⟩
      · have i1 : ¬ (j : Int) < (len : Int) := by omega
        clear hjl
        go_wp2_with fail
        go_ret
        exact ⟨t, rfl, HZ.out, R2.out.below HR.out (Nat.le_refl _), grown_below G2.out HR.out⟩
end Go.Proofs.YtgjllminidlolaaGreatDoor
