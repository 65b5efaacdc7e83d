/- Contracts: the draws of timetables. -/
import Derived.Test.YtgjllminidlolaaGreatDoorMAH
import Derived.Test.YtgjllminidlolaaGreatDoorMQPWalkI
set_option linter.unusedVariables false
namespace Go.Proofs.YtgjllminidlolaaGreatDoor
open Go.RowKit

/-- Stops have been drawn. -/
def DrawnS (w : World) (R m : Nat) (e : Ending) (w' : World) : Prop := ∃ v xs, e = .returned v ∧ xs.length ≤ 6 ∧ DGT 103 w R m v xs w'
theorem DrawnS.of {w W : World} {R m : Nat} {v : Value} {xs : List T3} (h : DGT 103 w R m v xs W) (hl : xs.length ≤ 6) {m' : Nat} (hm : m ≤ m') : DrawnS w R m' (.returned v) W := ⟨v, xs, rfl, hl, h.mono hm⟩

/-- A cell of a drawn timetable is there and may be written. -/
theorem DGT.at_ {ty : Nat} {w W : World} {R m g n c : Nat} {xs : List T3} (h : DGT ty w R m (.slice (some ⟨g, 0, none⟩) n c) xs W) (hl : xs.length = n) {j : Nat} (hj : j < n) :
    ∃ x y z, xs[j]? = some ⟨x, y, z⟩ ∧ W.cell? ⟨g, j * 3, none⟩ = some (.int .i64 x) ∧ W.cell? ⟨g, j * 3 + 1, none⟩ = some (.int .i64 y) ∧ W.cell? ⟨g, j * 3 + 2, none⟩ = some (.int .i64 z) := by
  obtain ⟨⟨x, y, z⟩, hp⟩ : ∃ p, xs[j]? = some p := ⟨_, List.getElem?_eq_getElem (by omega)⟩
  exact ⟨x, y, z, hp, OwnE.cell3 h.2.2.2 hp⟩
theorem DGT.put (f : Nat) {ty : Nat} {w W : World} {R m g n c : Nat} {xs : List T3} (h : DGT ty w R m (.slice (some ⟨g, 0, none⟩) n c) xs W) (hl : xs.length = n) {j : Nat} (hj : j < n) (hf : f < 3) (u : Int) {i : Nat} (hi : i = j * 3 + f) :
    ∃ ys, ys.length = n ∧ DGT ty w R m (.slice (some ⟨g, 0, none⟩) n c) ys (W.setCell ⟨g, i, none⟩ (.int .i64 u)) := by
  subst hi
  obtain ⟨p, hp⟩ : ∃ p, xs[j]? = some p := ⟨_, List.getElem?_eq_getElem (by omega)⟩
  obtain ⟨ys, hy, hyl⟩ : ∃ ys : List T3, (xs.flatMap enc3).set (j * 3 + f) (.int .i64 u) = ys.flatMap enc3 ∧ ys.length = xs.length := by
    match f, hf with
    | 0, _ => exact ⟨_, flat3_setA xs j p u hp, by simp⟩
    | 1, _ => exact ⟨_, flat3_setB xs j p u hp, by simp⟩
    | 2, _ => exact ⟨_, flat3_setC xs j p u hp, by simp⟩
  have h1 := own3_one h.2.2.2 hl u hy hyl
  exact ⟨ys, by omega, h.to h1.2 h1.1⟩

set_option maxRecDepth 20000 in
set_option maxHeartbeats 25600000 in
theorem l91Stops_any (R m : Nat) (n t : Int) (w : World) (h : RdAt w R m) (hm : m ≤ 50000) (hn : 2 ≤ n) (hn6 : n ≤ 6) :
    Calls Tryz.prog 99 #[.pointer (some ⟨R, 0, none⟩), .int .i64 n, .int .i64 t] w (DrawnS w R (m + 40)) := by
  have hRw := h.lt
  have H := Lib.hid h
  clear h
  have hmx : ¬ n ≤ 1 := by omega
  have D0 : Hid (DGT 103 w R m (.slice (some ⟨w.heap.size, 0, none⟩) 0 0) [] (w.alloc (.cells #[] 103))) :=
    ⟨hRw, H.out.below (below_alloc (Below.refl _ w) _) (Nat.le_refl _), grown_alloc (World.grownBy.refl w _) _, own_new (enc := enc3) (k := 3) w 103 w.heap.size (Nat.le_refl _) enc3_len [] #[] rfl (by simp) rfl⟩
  clear H
  go_enter Tryz.func99, Tryz.ntmps99
  go_wp2_with fail
  refine (pick_any R m 4 _ D0.out.2.1 (by omega) (by omega)).mono ?_
  rintro e w1 ⟨x1, rfl, a0, a1, -, hr, hg⟩
  have a1 := a1 (by omega)
  have D1 := Lib.hid (D0.out.pick hr hg)
  clear hr hg D0
  obtain ⟨M, hM⟩ : ∃ M : Nat, (M : Int) = 2 + x1 := ⟨(2 + x1).toNat, by omega⟩
  have hM1 : 2 ≤ M := by omega
  have hM2 : M ≤ 5 := by omega
  have hw1 : IntKind.i64.wrap (2 + x1) = 2 + x1 := IntWalk.i64_in _ (by omega)
  go_wp2_with fail
  rw [← hM]
  clear hM a0 a1 hw1
  refine (pick_any R (m + 1) _ w1 D1.out.2.1 (by omega) (by omega)).mono ?_
  rintro e w2 ⟨tw0, rfl, -, -, -, hr, hg⟩
  have D2 := Lib.hid (D1.out.pick hr hg)
  clear hr hg D1
  go_wp2_with fail
  go_loopw [2, 7, 9, 10] (fun t s tw i wr => ∃ (k : Nat) (tt tv : Int) (xs : List T3), (k : Int) ≤ n ∧ k ≤ M ∧ t = .int .i64 tt ∧ tw = .int .i64 tv ∧ i = .int .i64 k ∧ xs.length = k ∧ DGT 103 w R (m + 2 + 3 * k) s xs wr) (fun _ _ _ i _ => 6 - (intOf i).toNat)
  case atStart => exact ⟨0, t, tw0, [], by omega, by omega, rfl, rfl, rfl, rfl, D2.out⟩
  case round =>
    obtain ⟨k, tt, tv, xs, hk, hkM, rfl, rfl, rfl, hl, hd⟩ := hrel
    have HD := Lib.hid hd
    have HL := Lib.hid hl
    clear hd D2 hl
    by_cases hlt : (k : Int) < n ∧ k < M
    · obtain ⟨hl1, hl2⟩ := hlt
      have hz1 : (k : Int) < n := by omega
      have hz2 : (k : Int) < (M : Int) := by omega
      go_wp2_with fail
      refine (pick_any R (m + 2 + 3 * k) 3 wr HD.out.2.1 (by omega) (by omega)).mono ?_
      rintro e w3 ⟨p1, rfl, b0, b1, -, hr, hg⟩
      have D3 := Lib.hid (HD.out.pick hr hg)
      clear hr hg HD b1
      go_wp2_with fail
      refine (pick_any R (m + 2 + 3 * k + 1) 12 w3 D3.out.2.1 (by omega) (by omega)).mono ?_
      rintro e w4 ⟨p2, rfl, c0, c1, -, hr, hg⟩
      have D4 := Lib.hid (D3.out.pick hr hg)
      clear hr hg D3 c1
      have hsz := D4.out.size
      obtain ⟨q, hq⟩ : ∃ q, IntKind.i64.wrap (p1 * p2) = q := ⟨_, rfl⟩
      obtain ⟨t2, ht2⟩ : ∃ t2, IntKind.i64.wrap (tt + q) = t2 := ⟨_, rfl⟩
      obtain ⟨t3, ht3⟩ : ∃ t3, IntKind.i64.wrap (t2 + 1) = t3 := ⟨_, rfl⟩
      go_wp2_with (at_builtin; refine wpList_push 3 24 103 enc3 enc3_len enc3_one (by omega) ⟨tv, tt, t2⟩ _ _ rfl rfl _ _ _ rfl Tryz.underlying50 info_stop rfl w.heap.size _ xs rfl rfl rfl D4.out.2.2.2 (by rw [HL.out]; omega) (by rw [HL.out]; unfold maxLen; omega) hsz ?_; intro v' w' hown' hg'; have D5 := Lib.hid (D4.out.to hg' hown'); clear hown' hg')
      refine (pick_any R (m + 2 + 3 * k + 2) 40 _ D5.out.2.1 (by omega) (by omega)).mono ?_
      rintro e w6 ⟨p3, rfl, d0, d1, -, hr, hg⟩
      have D6 := Lib.hid (D5.out.pick hr hg)
      clear hr hg D5 d1
      obtain ⟨t4, ht4⟩ : ∃ t4, IntKind.i64.wrap (t3 + p3) = t4 := ⟨_, rfl⟩
      obtain ⟨tx, htx⟩ : ∃ tx, IntKind.i64.wrap (tv + 1) = tx := ⟨_, rfl⟩
      have hmz : ¬ (max 1 n = 0) := by omega
      go_wp2_with fail
      exact ⟨⟨k + 1, t4, tx.tmod (max 1 n), _, by omega, by omega, rfl, rfl, by push_cast; rfl, by rw [List.length_append, HL.out]; rfl, D6.out.mono (by omega)⟩, by simp only [intOf]; omega⟩
    · have hk2' : 2 ≤ k := by omega
      have hk5 : k ≤ 5 := by omega
      obtain ⟨A, c, rfl, -, hkc⟩ := HD.out.2.2.2.slc enc3_len HL.out
      obtain ⟨g, rfl, -, -, -, -⟩ := HD.out.2.2.2.form (by rw [HL.out]; omega)
      by_cases hc1 : (k : Int) < (M : Int)
      · have hc2 : ¬ (k : Int) < n := by omega
        clear hlt hk hkM
        by_cases hk2 : k = 2
        · subst hk2
          go_wp2_with fail
          refine (pick_any R (m + 2 + 3 * 2) 40 wr HD.out.2.1 (by omega) (by omega)).mono ?_
          rintro e w8 ⟨s8, rfl, -, -, -, hr, hg⟩
          have D8 := Lib.hid (HD.out.pick hr hg)
          clear hr hg
          have hfz := OwnE.frozen D8.out.2.2.2
          obtain ⟨x0, y0, z0, hp0, q0, q1, q2⟩ := D8.out.at_ HL.out (j := 0) (by omega)
          obtain ⟨x1, y1, z1, hp1, q3, q4, q5⟩ := D8.out.at_ HL.out (j := 1) (by omega)
          simp only [Nat.zero_mul, Nat.one_mul, Nat.zero_add, Nat.reduceAdd] at q0 q1 q2 q3 q4 q5
          clear hp0 hp1
          by_cases e0 : s8 = 0
          · obtain ⟨ys, hyl, hyd⟩ := D8.out.put 0 HL.out (j := 1) (by omega) (by omega) x0 (i := 3) rfl
            have D9 := Lib.hid hyd
            clear hyd
            go_wp2_with fail
            go_ret
            exact DrawnS.of D9.out (by omega) (by omega)
          by_cases e1 : s8 = 1
          · obtain ⟨ys, hyl, hyd⟩ := D8.out.put 1 HL.out (j := 1) (by omega) (by omega) z0 (i := 4) rfl
            have D9 := Lib.hid hyd
            clear hyd
            go_wp2_with fail
            go_ret
            exact DrawnS.of D9.out (by omega) (by omega)
          by_cases e2 : s8 = 2
          · have D9 := Lib.hid (D8.out.to (World.grownBy.refl w8 _) (OwnE.shrink enc3_len D8.out.2.2.2 HL.out (m := 1) (by omega)))
            go_wp2_with fail
            go_ret
            exact DrawnS.of D9.out (by rw [List.length_take]; omega) (by omega)
          by_cases e3 : s8 = 3
          · obtain ⟨ys, hyl, hyd⟩ := D8.out.put 1 HL.out (j := 0) (by omega) (by omega) (-1) (i := 1) rfl
            have D9 := Lib.hid hyd
            clear hyd
            go_wp2_with fail
            go_ret
            exact DrawnS.of D9.out (by omega) (by omega)
          · go_wp2_with fail
            go_ret
            exact DrawnS.of D8.out (by rw [HL.out]; omega) (by omega)
        have hk3 : (2 : Int) < (k : Int) := by omega
        go_wp2_with fail
        refine (pick_any R (m + 2 + 3 * k) 2 wr HD.out.2.1 (by omega) (by omega)).mono ?_
        rintro e w3 ⟨x2, rfl, a0, a1, -, hr, hg⟩
        have D3 := Lib.hid (HD.out.pick hr hg)
        clear hr hg HD a1
        by_cases hx2 : x2 = 0
        · go_wp2_with fail
          refine (pick_any R (m + 2 + 3 * k + 1) _ w3 D3.out.2.1 (by omega) (by omega)).mono ?_
          rintro e w4 ⟨y2, rfl, b0, b1, -, hr, hg⟩
          have b1 := b1 (by omega)
          have D4 := Lib.hid (D3.out.pick hr hg)
          clear hr hg D3
          obtain ⟨kk, hkk⟩ : ∃ kk : Nat, (kk : Int) = 1 + y2 := ⟨(1 + y2).toNat, by omega⟩
          have hw2 : IntKind.i64.wrap (1 + y2) = (kk : Int) := by rw [hkk]; exact IntWalk.i64_in _ (by omega)
          have hkz1 : (kk : Int) < (k : Int) := by omega
          have hkz2 : (0 : Int) ≤ (kk : Int) := by omega
          have hkz3 : kk < k := by omega
          have hkz4 : 1 ≤ kk := by omega
          clear hkk b0 b1
          have hfz := OwnE.frozen D4.out.2.2.2
          obtain ⟨x0, y0, z0, hp0, q0, q1, q2⟩ := D4.out.at_ HL.out (j := 0) (by omega)
          obtain ⟨x1, y1, z1, hp1, q3, q4, q5⟩ := D4.out.at_ HL.out hkz3
          simp only [Nat.zero_mul, Nat.zero_add] at q0 q1 q2
          obtain ⟨ys, hyl, hyd⟩ := D4.out.put 0 HL.out (j := 0) (by omega) (by omega) x1 (i := 0) rfl
          have HYL := Lib.hid hyl
          obtain ⟨zs, hzl, hzd⟩ := hyd.put 0 hyl hkz3 (by omega) x0 (i := kk * 3) rfl
          have HZL := Lib.hid hzl
          have HZD := Lib.hid hzd
          have hfy := OwnE.frozen hyd.2.2.2
          obtain ⟨x3, y3, z3, hp3, u3, u4, u5⟩ := hyd.at_ hyl hkz3
          clear hyd hzd hp0 hp1 hp3 hyl hzl
          go_wp2_with fail
          refine (pick_any R (m + 2 + 3 * k + 1 + 1) 40 _ HZD.out.2.1 (by omega) (by omega)).mono ?_
          rintro e w8 ⟨s8, rfl, -, -, -, hr, hg⟩
          have D8 := Lib.hid (HZD.out.pick hr hg)
          clear hr hg
          have hfz := OwnE.frozen D8.out.2.2.2
          obtain ⟨x0, y0, z0, hp0, q0, q1, q2⟩ := D8.out.at_ HZL.out (j := 0) (by omega)
          obtain ⟨x1, y1, z1, hp1, q3, q4, q5⟩ := D8.out.at_ HZL.out (j := 1) (by omega)
          simp only [Nat.zero_mul, Nat.one_mul, Nat.zero_add, Nat.reduceAdd] at q0 q1 q2 q3 q4 q5
          clear hp0 hp1
          by_cases e0 : s8 = 0
          · obtain ⟨ys, hyl, hyd⟩ := D8.out.put 0 HZL.out (j := 1) (by omega) (by omega) x0 (i := 3) rfl
            have D9 := Lib.hid hyd
            clear hyd
            go_wp2_with fail
            go_ret
            exact DrawnS.of D9.out (by omega) (by omega)
          by_cases e1 : s8 = 1
          · obtain ⟨ys, hyl, hyd⟩ := D8.out.put 1 HZL.out (j := 1) (by omega) (by omega) z0 (i := 4) rfl
            have D9 := Lib.hid hyd
            clear hyd
            go_wp2_with fail
            go_ret
            exact DrawnS.of D9.out (by omega) (by omega)
          by_cases e2 : s8 = 2
          · have D9 := Lib.hid (D8.out.to (World.grownBy.refl w8 _) (OwnE.shrink enc3_len D8.out.2.2.2 HZL.out (m := 1) (by omega)))
            go_wp2_with fail
            go_ret
            exact DrawnS.of D9.out (by rw [List.length_take]; omega) (by omega)
          by_cases e3 : s8 = 3
          · obtain ⟨ys, hyl, hyd⟩ := D8.out.put 1 HZL.out (j := 0) (by omega) (by omega) (-1) (i := 1) rfl
            have D9 := Lib.hid hyd
            clear hyd
            go_wp2_with fail
            go_ret
            exact DrawnS.of D9.out (by omega) (by omega)
          · go_wp2_with fail
            go_ret
            exact DrawnS.of D8.out (by rw [HZL.out]; omega) (by omega)
        · go_wp2_with fail
          refine (pick_any R (m + 2 + 3 * k + 1) 40 w3 D3.out.2.1 (by omega) (by omega)).mono ?_
          rintro e w8 ⟨s8, rfl, -, -, -, hr, hg⟩
          have D8 := Lib.hid (D3.out.pick hr hg)
          clear hr hg
          have hfz := OwnE.frozen D8.out.2.2.2
          obtain ⟨x0, y0, z0, hp0, q0, q1, q2⟩ := D8.out.at_ HL.out (j := 0) (by omega)
          obtain ⟨x1, y1, z1, hp1, q3, q4, q5⟩ := D8.out.at_ HL.out (j := 1) (by omega)
          simp only [Nat.zero_mul, Nat.one_mul, Nat.zero_add, Nat.reduceAdd] at q0 q1 q2 q3 q4 q5
          clear hp0 hp1
          by_cases e0 : s8 = 0
          · obtain ⟨ys, hyl, hyd⟩ := D8.out.put 0 HL.out (j := 1) (by omega) (by omega) x0 (i := 3) rfl
            have D9 := Lib.hid hyd
            clear hyd
            go_wp2_with fail
            go_ret
            exact DrawnS.of D9.out (by omega) (by omega)
          by_cases e1 : s8 = 1
          · obtain ⟨ys, hyl, hyd⟩ := D8.out.put 1 HL.out (j := 1) (by omega) (by omega) z0 (i := 4) rfl
            have D9 := Lib.hid hyd
            clear hyd
            go_wp2_with fail
            go_ret
            exact DrawnS.of D9.out (by omega) (by omega)
          by_cases e2 : s8 = 2
          · have D9 := Lib.hid (D8.out.to (World.grownBy.refl w8 _) (OwnE.shrink enc3_len D8.out.2.2.2 HL.out (m := 1) (by omega)))
            go_wp2_with fail
            go_ret
            exact DrawnS.of D9.out (by rw [List.length_take]; omega) (by omega)
          by_cases e3 : s8 = 3
          · obtain ⟨ys, hyl, hyd⟩ := D8.out.put 1 HL.out (j := 0) (by omega) (by omega) (-1) (i := 1) rfl
            have D9 := Lib.hid hyd
            clear hyd
            go_wp2_with fail
            go_ret
            exact DrawnS.of D9.out (by omega) (by omega)
          · go_wp2_with fail
            go_ret
            exact DrawnS.of D8.out (by rw [HL.out]; omega) (by omega)
      · clear hlt hk hkM
        by_cases hk2 : k = 2
        · subst hk2
          go_wp2_with fail
          refine (pick_any R (m + 2 + 3 * 2) 40 wr HD.out.2.1 (by omega) (by omega)).mono ?_
          rintro e w8 ⟨s8, rfl, -, -, -, hr, hg⟩
          have D8 := Lib.hid (HD.out.pick hr hg)
          clear hr hg
          have hfz := OwnE.frozen D8.out.2.2.2
          obtain ⟨x0, y0, z0, hp0, q0, q1, q2⟩ := D8.out.at_ HL.out (j := 0) (by omega)
          obtain ⟨x1, y1, z1, hp1, q3, q4, q5⟩ := D8.out.at_ HL.out (j := 1) (by omega)
          simp only [Nat.zero_mul, Nat.one_mul, Nat.zero_add, Nat.reduceAdd] at q0 q1 q2 q3 q4 q5
          clear hp0 hp1
          by_cases e0 : s8 = 0
          · obtain ⟨ys, hyl, hyd⟩ := D8.out.put 0 HL.out (j := 1) (by omega) (by omega) x0 (i := 3) rfl
            have D9 := Lib.hid hyd
            clear hyd
            go_wp2_with fail
            go_ret
            exact DrawnS.of D9.out (by omega) (by omega)
          by_cases e1 : s8 = 1
          · obtain ⟨ys, hyl, hyd⟩ := D8.out.put 1 HL.out (j := 1) (by omega) (by omega) z0 (i := 4) rfl
            have D9 := Lib.hid hyd
            clear hyd
            go_wp2_with fail
            go_ret
            exact DrawnS.of D9.out (by omega) (by omega)
          by_cases e2 : s8 = 2
          · have D9 := Lib.hid (D8.out.to (World.grownBy.refl w8 _) (OwnE.shrink enc3_len D8.out.2.2.2 HL.out (m := 1) (by omega)))
            go_wp2_with fail
            go_ret
            exact DrawnS.of D9.out (by rw [List.length_take]; omega) (by omega)
          by_cases e3 : s8 = 3
          · obtain ⟨ys, hyl, hyd⟩ := D8.out.put 1 HL.out (j := 0) (by omega) (by omega) (-1) (i := 1) rfl
            have D9 := Lib.hid hyd
            clear hyd
            go_wp2_with fail
            go_ret
            exact DrawnS.of D9.out (by omega) (by omega)
          · go_wp2_with fail
            go_ret
            exact DrawnS.of D8.out (by rw [HL.out]; omega) (by omega)
        have hk3 : (2 : Int) < (k : Int) := by omega
        go_wp2_with fail
        refine (pick_any R (m + 2 + 3 * k) 2 wr HD.out.2.1 (by omega) (by omega)).mono ?_
        rintro e w3 ⟨x2, rfl, a0, a1, -, hr, hg⟩
        have D3 := Lib.hid (HD.out.pick hr hg)
        clear hr hg HD a1
        by_cases hx2 : x2 = 0
        · go_wp2_with fail
          refine (pick_any R (m + 2 + 3 * k + 1) _ w3 D3.out.2.1 (by omega) (by omega)).mono ?_
          rintro e w4 ⟨y2, rfl, b0, b1, -, hr, hg⟩
          have b1 := b1 (by omega)
          have D4 := Lib.hid (D3.out.pick hr hg)
          clear hr hg D3
          obtain ⟨kk, hkk⟩ : ∃ kk : Nat, (kk : Int) = 1 + y2 := ⟨(1 + y2).toNat, by omega⟩
          have hw2 : IntKind.i64.wrap (1 + y2) = (kk : Int) := by rw [hkk]; exact IntWalk.i64_in _ (by omega)
          have hkz1 : (kk : Int) < (k : Int) := by omega
          have hkz2 : (0 : Int) ≤ (kk : Int) := by omega
          have hkz3 : kk < k := by omega
          have hkz4 : 1 ≤ kk := by omega
          clear hkk b0 b1
          have hfz := OwnE.frozen D4.out.2.2.2
          obtain ⟨x0, y0, z0, hp0, q0, q1, q2⟩ := D4.out.at_ HL.out (j := 0) (by omega)
          obtain ⟨x1, y1, z1, hp1, q3, q4, q5⟩ := D4.out.at_ HL.out hkz3
          simp only [Nat.zero_mul, Nat.zero_add] at q0 q1 q2
          obtain ⟨ys, hyl, hyd⟩ := D4.out.put 0 HL.out (j := 0) (by omega) (by omega) x1 (i := 0) rfl
          have HYL := Lib.hid hyl
          obtain ⟨zs, hzl, hzd⟩ := hyd.put 0 hyl hkz3 (by omega) x0 (i := kk * 3) rfl
          have HZL := Lib.hid hzl
          have HZD := Lib.hid hzd
          have hfy := OwnE.frozen hyd.2.2.2
          obtain ⟨x3, y3, z3, hp3, u3, u4, u5⟩ := hyd.at_ hyl hkz3
          clear hyd hzd hp0 hp1 hp3 hyl hzl
          go_wp2_with fail
          refine (pick_any R (m + 2 + 3 * k + 1 + 1) 40 _ HZD.out.2.1 (by omega) (by omega)).mono ?_
          rintro e w8 ⟨s8, rfl, -, -, -, hr, hg⟩
          have D8 := Lib.hid (HZD.out.pick hr hg)
          clear hr hg
          have hfz := OwnE.frozen D8.out.2.2.2
          obtain ⟨x0, y0, z0, hp0, q0, q1, q2⟩ := D8.out.at_ HZL.out (j := 0) (by omega)
          obtain ⟨x1, y1, z1, hp1, q3, q4, q5⟩ := D8.out.at_ HZL.out (j := 1) (by omega)
          simp only [Nat.zero_mul, Nat.one_mul, Nat.zero_add, Nat.reduceAdd] at q0 q1 q2 q3 q4 q5
          clear hp0 hp1
          by_cases e0 : s8 = 0
          · obtain ⟨ys, hyl, hyd⟩ := D8.out.put 0 HZL.out (j := 1) (by omega) (by omega) x0 (i := 3) rfl
            have D9 := Lib.hid hyd
            clear hyd
            go_wp2_with fail
            go_ret
            exact DrawnS.of D9.out (by omega) (by omega)
          by_cases e1 : s8 = 1
          · obtain ⟨ys, hyl, hyd⟩ := D8.out.put 1 HZL.out (j := 1) (by omega) (by omega) z0 (i := 4) rfl
            have D9 := Lib.hid hyd
            clear hyd
            go_wp2_with fail
            go_ret
            exact DrawnS.of D9.out (by omega) (by omega)
          by_cases e2 : s8 = 2
          · have D9 := Lib.hid (D8.out.to (World.grownBy.refl w8 _) (OwnE.shrink enc3_len D8.out.2.2.2 HZL.out (m := 1) (by omega)))
            go_wp2_with fail
            go_ret
            exact DrawnS.of D9.out (by rw [List.length_take]; omega) (by omega)
          by_cases e3 : s8 = 3
          · obtain ⟨ys, hyl, hyd⟩ := D8.out.put 1 HZL.out (j := 0) (by omega) (by omega) (-1) (i := 1) rfl
            have D9 := Lib.hid hyd
            clear hyd
            go_wp2_with fail
            go_ret
            exact DrawnS.of D9.out (by omega) (by omega)
          · go_wp2_with fail
            go_ret
            exact DrawnS.of D8.out (by rw [HZL.out]; omega) (by omega)
        · go_wp2_with fail
          refine (pick_any R (m + 2 + 3 * k + 1) 40 w3 D3.out.2.1 (by omega) (by omega)).mono ?_
          rintro e w8 ⟨s8, rfl, -, -, -, hr, hg⟩
          have D8 := Lib.hid (D3.out.pick hr hg)
          clear hr hg
          have hfz := OwnE.frozen D8.out.2.2.2
          obtain ⟨x0, y0, z0, hp0, q0, q1, q2⟩ := D8.out.at_ HL.out (j := 0) (by omega)
          obtain ⟨x1, y1, z1, hp1, q3, q4, q5⟩ := D8.out.at_ HL.out (j := 1) (by omega)
          simp only [Nat.zero_mul, Nat.one_mul, Nat.zero_add, Nat.reduceAdd] at q0 q1 q2 q3 q4 q5
          clear hp0 hp1
          by_cases e0 : s8 = 0
          · obtain ⟨ys, hyl, hyd⟩ := D8.out.put 0 HL.out (j := 1) (by omega) (by omega) x0 (i := 3) rfl
            have D9 := Lib.hid hyd
            clear hyd
            go_wp2_with fail
            go_ret
            exact DrawnS.of D9.out (by omega) (by omega)
          by_cases e1 : s8 = 1
          · obtain ⟨ys, hyl, hyd⟩ := D8.out.put 1 HL.out (j := 1) (by omega) (by omega) z0 (i := 4) rfl
            have D9 := Lib.hid hyd
            clear hyd
            go_wp2_with fail
            go_ret
            exact DrawnS.of D9.out (by omega) (by omega)
          by_cases e2 : s8 = 2
          · have D9 := Lib.hid (D8.out.to (World.grownBy.refl w8 _) (OwnE.shrink enc3_len D8.out.2.2.2 HL.out (m := 1) (by omega)))
            go_wp2_with fail
            go_ret
            exact DrawnS.of D9.out (by rw [List.length_take]; omega) (by omega)
          by_cases e3 : s8 = 3
          · obtain ⟨ys, hyl, hyd⟩ := D8.out.put 1 HL.out (j := 0) (by omega) (by omega) (-1) (i := 1) rfl
            have D9 := Lib.hid hyd
            clear hyd
            go_wp2_with fail
            go_ret
            exact DrawnS.of D9.out (by omega) (by omega)
          · go_wp2_with fail
            go_ret
            exact DrawnS.of D8.out (by rw [HL.out]; omega) (by omega)
end Go.Proofs.YtgjllminidlolaaGreatDoor
