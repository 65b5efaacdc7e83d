/- Texts of mine in one: RDraw RWalkD CatAt. -/
import Derived.Test.YtgjllminidlolaaGreatDoorMAE
import Derived.Test.YtgjllminidlolaaGreatDoorMAG
import Derived.Test.YtgjllminidlolaaGreatDoorMAB
import Derived.Test.YtgjllminidlolaaGreatDoorMAA
import Derived.Deep.QuietTactic
import Derived.BigQuiet
import Derived.Handy
import Derived.Test.YtgjllminidlolaaGreatDoorMAC
import Derived.Maps.AppendAt
/- Contracts: the draws of roads. -/
set_option linter.unusedVariables false
namespace Go.Proofs.YtgjllminidlolaaGreatDoor
open Go.RowKit

theorem flat3_setA : ∀ (xs : List T3) (j : Nat) (p : T3) (x : Int), xs[j]? = some p → (xs.flatMap enc3).set (j * 3) (.int .i64 x) = (xs.set j ⟨x, p.b, p.c⟩).flatMap enc3
  | [], _, _, _, h => by simp at h
  | q :: xs, 0, p, x, h => by
    have e : q = p := by simpa using h
    subst e
    simp [enc3]
  | q :: xs, j + 1, p, x, h => by
    have ih := flat3_setA xs j p x (by simpa using h)
    have e0 : (j + 1) * 3 = j * 3 + 1 + 1 + 1 := by omega
    simp only [List.flatMap_cons, List.set_cons_succ, ← ih, enc3, List.cons_append, List.nil_append, e0]
theorem flat3_setB : ∀ (xs : List T3) (j : Nat) (p : T3) (x : Int), xs[j]? = some p → (xs.flatMap enc3).set (j * 3 + 1) (.int .i64 x) = (xs.set j ⟨p.a, x, p.c⟩).flatMap enc3
  | [], _, _, _, h => by simp at h
  | q :: xs, 0, p, x, h => by
    have e : q = p := by simpa using h
    subst e
    simp [enc3]
  | q :: xs, j + 1, p, x, h => by
    have ih := flat3_setB xs j p x (by simpa using h)
    have e0 : (j + 1) * 3 + 1 = j * 3 + 1 + 1 + 1 + 1 := by omega
    simp only [List.flatMap_cons, List.set_cons_succ, ← ih, enc3, List.cons_append, List.nil_append, e0]
theorem flat3_setC : ∀ (xs : List T3) (j : Nat) (p : T3) (x : Int), xs[j]? = some p → (xs.flatMap enc3).set (j * 3 + 2) (.int .i64 x) = (xs.set j ⟨p.a, p.b, x⟩).flatMap enc3
  | [], _, _, _, h => by simp at h
  | q :: xs, 0, p, x, h => by
    have e : q = p := by simpa using h
    subst e
    simp [enc3]
  | q :: xs, j + 1, p, x, h => by
    have ih := flat3_setC xs j p x (by simpa using h)
    have e0 : (j + 1) * 3 + 2 = j * 3 + 2 + 1 + 1 + 1 := by omega
    simp only [List.flatMap_cons, List.set_cons_succ, ← ih, enc3, List.cons_append, List.nil_append, e0]
/-- One cell of an own row of three-cell structs is written. -/
theorem own3_one {w : World} {base ty g cap n : Nat} {xs ys : List T3} (h : OwnE 3 enc3 ty base w (.slice (some ⟨g, 0, none⟩) n cap) xs) (hn : xs.length = n) {j : Nat} (x : Int) (hy : (xs.flatMap enc3).set j (.int .i64 x) = ys.flatMap enc3) (hl : ys.length = xs.length) :
    OwnE 3 enc3 ty base (w.setCell ⟨g, j, none⟩ (.int .i64 x)) (.slice (some ⟨g, 0, none⟩) n cap) ys ∧ w.grownBy (w.setCell ⟨g, j, none⟩ (.int .i64 x)) (some g) := by
  subst hn
  have h1 := World.ownsRow.stored h j (.int .i64 x)
  refine ⟨?_, h1.2⟩
  unfold OwnE
  rw [hl, ← hy]
  exact h1.1


/-- A draw of roads or stops under way: the reader and a slice of its own. -/
def DGT (ty : Nat) (w : World) (R m : Nat) (v : Value) (xs : List T3) (W : World) : Prop :=
  R < w.heap.size ∧ RdAt W R m ∧ w.grownBy W (some R) ∧ OwnE 3 enc3 ty w.heap.size W v xs
section
variable {ty : Nat} {w W W' : World} {R m m' : Nat} {v v' : Value} {xs ys : List T3}
theorem DGT.own_ne (h : DGT ty w R m v xs W) : v.ownBlock = none ∨ v.ownBlock ≠ some R := by
  by_cases e : v.ownBlock = some R
  · have := (h.2.2.2.lt R e).1
    have := h.1
    omega
  · exact .inr e
theorem DGT.pick (h : DGT ty w R m v xs W) (hr : RdAt W' R m') (hg : W.grownBy W' (some R)) : DGT ty w R m' v xs W' :=
  ⟨h.1, hr, grown_trans h.2.2.1 hg, OwnE.apart h.2.2.2 hg h.own_ne⟩
theorem DGT.alloc (h : DGT ty w R m v xs W) (o : Obj) : DGT ty w R m v xs (W.alloc o) :=
  ⟨h.1, h.2.1.below (below_alloc (Below.refl _ W) o) (Nat.le_refl _), grown_alloc h.2.2.1 o, OwnE.alloc h.2.2.2 o⟩
theorem DGT.drew (h : DGT ty w R m v xs W) : DGT ty w R m v xs W.drew := ⟨h.1, h.2.1, ⟨h.2.2.1.os, h.2.2.1.tape, h.2.2.1.output, h.2.2.1.size, h.2.2.1.block⟩, h.2.2.2⟩
theorem DGT.size (h : DGT ty w R m v xs W) : w.heap.size ≤ W.heap.size := h.2.2.1.size
theorem DGT.to (h : DGT ty w R m v xs W) (hg : W.grownBy W' v.ownBlock) (ho : OwnE 3 enc3 ty w.heap.size W' v' ys) : DGT ty w R m v' ys W' :=
  ⟨h.1, h.2.1.grown hg (fun j hj => by have := (h.2.2.2.lt j hj).1; have := h.1; omega), grown_own h.2.2.1 hg (fun j hj => (h.2.2.2.lt j hj).1), ho⟩
theorem DGT.below (h : DGT ty w R m v xs W) (hb : Below W.heap.size W W') : DGT ty w R m v xs W' :=
  ⟨h.1, h.2.1.below hb (Nat.le_refl _), grown_below h.2.2.1 hb, h.2.2.2.below hb (Nat.le_refl _)⟩
theorem DGT.next (h : DGT ty w R m v xs W) (hb : Below W.heap.size W W') (ho : OwnE 3 enc3 ty W.heap.size W' v' ys) : DGT ty w R m v' ys W' :=
  ⟨h.1, h.2.1.below hb (Nat.le_refl _), grown_below h.2.2.1 hb, ho.base_le h.size⟩
theorem DGT.mono (h : DGT ty w R m v xs W) (hm : m ≤ m') : DGT ty w R m' v xs W := ⟨h.1, h.2.1.mono hm, h.2.2⟩
end
theorem results_tmp4 {fn : Func} {t u v x : Tmp} (h : fn.results = #[.tmp t, .tmp u, .tmp v, .tmp x]) (tmps : Array Value) (P : Program) (w : World) :
    (results fn tmps).run P w = .ok (.tuple #[tmps.getD t undef, tmps.getD u undef, tmps.getD v undef, tmps.getD x undef]) w := by
  simp [results, h]
/-- A town has been drawn. -/
def DrawnT (w : World) (R m : Nat) (n : Int) (e : Ending) (w' : World) : Prop :=
  ∃ x, e = .returned (.int .i64 x) ∧ -1 ≤ x ∧ x ≤ n ∧ RdAt w' R (m + 2) ∧ w.grownBy w' (some R)
set_option maxRecDepth 20000 in
set_option maxHeartbeats 1600000 in
theorem l91Town_any (R m : Nat) (n : Int) (w : World) (h : RdAt w R m) (hm : m ≤ 50000) (h1 : 2 ≤ n) (h2 : n ≤ 100) :
    Calls Tryz.prog 88 #[.pointer (some ⟨R, 0, none⟩), .int .i64 n] w (DrawnT w R m n) := by
  have hRw := h.lt
  have H := Lib.hid h
  clear h
  have hmx : ¬ n ≤ 1 := by omega
  go_enter Tryz.func88, Tryz.ntmps88
  go_wp2_with fail
  refine (pick_any R m 24 w H.out (by omega) (by omega)).mono ?_
  rintro e w1 ⟨x1, rfl, a0, a1, -, hr, hg⟩
  have hR1 := Nat.lt_of_lt_of_le hRw hg.size
  have HR1 := Lib.hid hr
  have HG1 := Lib.hid hg
  clear hr hg H a1
  by_cases e0 : x1 = 0
  · have HRa := Lib.hid (HR1.out.below (below_alloc (Below.refl _ w1) (.cells #[.int .i64 (-1), .int .i64 n] 3)) (Nat.le_refl _))
    go_wp2_with fail
    refine (pick_any R (m + 1) 2 _ HRa.out (by omega) (by omega)).mono ?_
    rintro e w2 ⟨y, rfl, c0, c1, -, hr, hg⟩
    have c1 := c1 (by omega)
    obtain ⟨y, rfl⟩ : ∃ i : Nat, y = i := ⟨y.toNat, by omega⟩
    obtain ⟨z, hz, hzm⟩ := lit_at [-1, n] _ rfl (by simp) hg hR1 (x := y) (by simp; omega)
    have HR2 := Lib.hid hr
    have HG2 := Lib.hid (grown_trans (grown_alloc HG1.out _) hg)
    have HZ := Lib.hid hzm
    clear hr hg hzm
    go_wp2_with fail
    go_ret
    exact ⟨z, rfl, by have := HZ.out; simp at this; omega, by have := HZ.out; simp at this; omega, HR2.out, HG2.out⟩
  · go_wp2_with fail
    refine (pick_any R (m + 1) _ w1 HR1.out (by omega) (by omega)).mono ?_
    rintro e w2 ⟨y, rfl, c0, c1, -, hr, hg⟩
    have c1 := c1 (by omega)
    have HR2 := Lib.hid hr
    have HG2 := Lib.hid (grown_trans HG1.out hg)
    clear hr hg
    go_wp2_with fail
    go_ret
    exact ⟨y, rfl, by omega, by omega, HR2.out, HG2.out⟩
/-- How l91Roads ends. -/
def DrawnR (w : World) (R m : Nat) (e : Ending) (w' : World) : Prop :=
  ∃ n v xs, e = .returned (.tuple #[.int .i64 n, v]) ∧ 2 ≤ n ∧ n ≤ 6 ∧ xs.length ≤ 12 ∧ DGT 43 w R m v xs w'
theorem DrawnR.of {w W : World} {R m : Nat} {v : Value} {xs : List T3} {n : Int} (h : DGT 43 w R m v xs W) (h1 : 2 ≤ n) (h2 : n ≤ 6) (hl : xs.length ≤ 12) {m' : Nat} (hm : m ≤ m') : DrawnR w R m' (.returned (.tuple #[.int .i64 n, v])) W :=
  ⟨n, v, xs, rfl, h1, h2, hl, h.mono hm⟩

set_option maxRecDepth 20000 in
set_option maxHeartbeats 25600000 in
theorem l91Roads_any (R m : Nat) (w : World) (h : RdAt w R m) (hm : m ≤ 50000) :
    Calls Tryz.prog 87 #[.pointer (some ⟨R, 0, none⟩)] w (DrawnR w R (m + 60)) := by
  have hRw := h.lt
  have H := Lib.hid h
  clear h
  go_enter Tryz.func87, Tryz.ntmps87
  go_wp2_with fail
  refine (pick_any R m 5 w H.out (by omega) (by omega)).mono ?_
  rintro e w1 ⟨x1, rfl, a0, a1, -, hr, hg⟩
  have a1 := a1 (by omega)
  have hsz1 := hg.size
  have D1 : Hid (DGT 43 w R (m + 1) (.slice (some ⟨w1.heap.size, 0, none⟩) 0 0) [] (w1.alloc (.cells #[] 43))) :=
    ⟨hRw, hr.below (below_alloc (Below.refl _ w1) _) (Nat.le_refl _), grown_alloc hg _, own_new (enc := enc3) (k := 3) w1 43 w.heap.size hsz1 enc3_len [] #[] rfl (by simp) rfl⟩
  clear hr hg H
  go_wp2_with fail
  refine (pick_any R (m + 1) 10 _ D1.out.2.1 (by omega) (by omega)).mono ?_
  rintro e w2 ⟨n, rfl, n0, n1, -, hr, hg⟩
  have n1 := n1 (by omega)
  obtain ⟨n, rfl⟩ : ∃ i : Nat, n = i := ⟨n.toNat, by omega⟩
  have D2 := Lib.hid (D1.out.pick hr hg)
  obtain ⟨N, hN⟩ : ∃ N, N = 2 + x1 := ⟨_, rfl⟩
  have hN1 : 2 ≤ N := by omega
  have hN2 : N ≤ 6 := by omega
  clear hr hg D1
  go_wp2_with fail
  rw [← hN]
  clear hN a0 a1
  go_loopw [7, 5, 8, 9, 10, 11] (fun i s _ _ _ _ wr => ∃ (k : Nat) (xs : List T3), k ≤ n ∧ i = .int .i64 k ∧ xs.length ≤ k ∧ DGT 43 w R (m + 2 + 6 * k) s xs wr) (fun i _ _ _ _ _ _ => n - (intOf i).toNat)
  case atStart => exact ⟨0, [], by omega, rfl, by simp, D2.out⟩
  case round =>
    obtain ⟨k, xs, hk, rfl, hl, hd⟩ := hrel
    have HD := Lib.hid hd
    clear hd D2
    by_cases hlt : k < n
    · have hltz : (k : Int) < (n : Int) := by omega
      have kw : IntKind.i64.wrap ((k : Int) + 1) = (k : Int) + 1 := IntWalk.i64_in _ (by omega)
      go_wp2_with fail
      refine (pick_any R (m + 2 + 6 * k) N wr HD.out.2.1 (by omega) (by omega)).mono ?_
      rintro e w3 ⟨a, rfl, b0, b1, -, hr, hg⟩
      have b1 := b1 (by omega)
      have D3 := Lib.hid (HD.out.pick hr hg)
      clear hr hg HD
      go_wp2_with fail
      refine (pick_any R (m + 2 + 6 * k + 1) N w3 D3.out.2.1 (by omega) (by omega)).mono ?_
      rintro e w4 ⟨b, rfl, c0, c1, -, hr, hg⟩
      have c1 := c1 (by omega)
      have D4 := Lib.hid (D3.out.pick hr hg)
      clear hr hg D3
      by_cases hkn : (k : Int) + 1 < N
      · go_wp2_with fail
        refine (pick_any R (m + 2 + 6 * k + 2) 3 w4 D4.out.2.1 (by omega) (by omega)).mono ?_
        rintro e w5 ⟨t, rfl, t0, t1, -, hr, hg⟩
        have D5 := Lib.hid (D4.out.pick hr hg)
        clear hr hg D4 t1
        by_cases ht : 0 < t
        · go_wp2_with fail
          refine (pick_any R (m + 2 + 6 * k + 3) ((k : Int) + 1) w5 D5.out.2.1 (by omega) (by omega)).mono ?_
          rintro e w9 ⟨a2, rfl, s0, s1, -, hr, hg⟩
          have s1 := s1 (by omega)
          have D9 := Lib.hid (D5.out.pick hr hg)
          clear hr hg D5
          have hab2 : ¬ (k : Int) + 1 ≤ a2 := by omega
          have hab3 : a2 ≤ (k : Int) + 1 := by omega
          obtain ⟨A, c, rfl, -, hlc⟩ := D9.out.2.2.2.slc enc3_len rfl
          go_wp2_with fail
          refine (pick_any R (m + 2 + 6 * k + 4) 6 w9 D9.out.2.1 (by omega) (by omega)).mono ?_
          rintro e w6 ⟨p, rfl, p0, p1, -, hr, hg⟩
          have p1 := p1 (by omega)
          have D6 := Lib.hid (D9.out.pick hr hg)
          clear hr hg D9
          go_wp2_with fail
          refine (pick_any R (m + 2 + 6 * k + 4 + 1) 3 w6 D6.out.2.1 (by omega) (by omega)).mono ?_
          rintro e w7 ⟨q, rfl, q0, q1, -, hr, hg⟩
          have q1 := q1 (by omega)
          have D7 := Lib.hid (D6.out.pick hr hg)
          clear hr hg D6
          have pq : 0 ≤ p * (1 + q) ∧ p * (1 + q) ≤ 100 := by
            have : q = 0 ∨ q = 1 ∨ q = 2 := by omega
            rcases this with rfl | rfl | rfl <;> omega
          have w0q : IntKind.i64.wrap (1 + q) = 1 + q := IntWalk.i64_in _ (by omega)
          obtain ⟨pr, hpr⟩ : ∃ pr, p * (1 + q) = pr := ⟨_, rfl⟩
          have w1q : IntKind.i64.wrap (p * (1 + q)) = pr := by rw [IntWalk.i64_in _ (by omega), hpr]
          rw [hpr] at pq
          have w2q : IntKind.i64.wrap (1 + pr) = 1 + pr := IntWalk.i64_in _ (by omega)
          clear hpr
          by_cases hj : RoadOk N (xs ++ [⟨a2, (k : Int) + 1, 1 + pr⟩])
          · have HJ := Lib.hid hj
            clear hj
            go_wp2_with fail
            refine (specRoadsAdd_any A N xs.length c xs _ _ _ (xs ++ [⟨a2, (k : Int) + 1, 1 + pr⟩]) true w7 (sl_of_own_at enc3_len D7.out.2.2.2 rfl) (by omega) (by omega) (by omega) (.inl ⟨rfl, HJ.out, rfl⟩)).mono ?_
            rintro e w8 ⟨v8, rfl, hown8, hb8⟩
            have D8 := Lib.hid ((D7.out.next hb8 hown8).mono (show m + 2 + 6 * k + 4 + 1 + 1 ≤ m + 2 + 6 * (k + 1) by omega))
            clear hown8 hb8 D7
            go_wp2_with fail
            go_roundw
            case rel => exact ⟨k + 1, _, by omega, by go_num, by simp; omega, D8.out⟩
            case measure => simp [intOf]; omega
          · have HJ := Lib.hid hj
            clear hj
            go_wp2_with fail
            refine (specRoadsAdd_any A N xs.length c xs _ _ _ [] false w7 (sl_of_own_at enc3_len D7.out.2.2.2 rfl) (by omega) (by omega) (by omega) (.inr ⟨rfl, HJ.out, rfl⟩)).mono ?_
            rintro e w8 ⟨v8, rfl, hown8, hb8⟩
            have D8 := Lib.hid ((D7.out.below hb8).mono (show m + 2 + 6 * k + 4 + 1 + 1 ≤ m + 2 + 6 * (k + 1) by omega))
            clear hown8 hb8 D7
            go_wp2_with fail
            go_roundw
            case rel => exact ⟨k + 1, xs, by omega, by go_num, by omega, D8.out⟩
            case measure => simp [intOf]; omega
        · by_cases hab : a < b
          · have hab2 : ¬ b ≤ a := by omega
            have hab3 : a ≤ b := by omega
            obtain ⟨A, c, rfl, -, hlc⟩ := D5.out.2.2.2.slc enc3_len rfl
            go_wp2_with fail
            refine (pick_any R (m + 2 + 6 * k + 3) 6 w5 D5.out.2.1 (by omega) (by omega)).mono ?_
            rintro e w6 ⟨p, rfl, p0, p1, -, hr, hg⟩
            have p1 := p1 (by omega)
            have D6 := Lib.hid (D5.out.pick hr hg)
            clear hr hg D5
            go_wp2_with fail
            refine (pick_any R (m + 2 + 6 * k + 3 + 1) 3 w6 D6.out.2.1 (by omega) (by omega)).mono ?_
            rintro e w7 ⟨q, rfl, q0, q1, -, hr, hg⟩
            have q1 := q1 (by omega)
            have D7 := Lib.hid (D6.out.pick hr hg)
            clear hr hg D6
            have pq : 0 ≤ p * (1 + q) ∧ p * (1 + q) ≤ 100 := by
              have : q = 0 ∨ q = 1 ∨ q = 2 := by omega
              rcases this with rfl | rfl | rfl <;> omega
            have w0q : IntKind.i64.wrap (1 + q) = 1 + q := IntWalk.i64_in _ (by omega)
            obtain ⟨pr, hpr⟩ : ∃ pr, p * (1 + q) = pr := ⟨_, rfl⟩
            have w1q : IntKind.i64.wrap (p * (1 + q)) = pr := by rw [IntWalk.i64_in _ (by omega), hpr]
            rw [hpr] at pq
            have w2q : IntKind.i64.wrap (1 + pr) = 1 + pr := IntWalk.i64_in _ (by omega)
            clear hpr
            by_cases hj : RoadOk N (xs ++ [⟨a, b, 1 + pr⟩])
            · have HJ := Lib.hid hj
              clear hj
              go_wp2_with fail
              refine (specRoadsAdd_any A N xs.length c xs _ _ _ (xs ++ [⟨a, b, 1 + pr⟩]) true w7 (sl_of_own_at enc3_len D7.out.2.2.2 rfl) (by omega) (by omega) (by omega) (.inl ⟨rfl, HJ.out, rfl⟩)).mono ?_
              rintro e w8 ⟨v8, rfl, hown8, hb8⟩
              have D8 := Lib.hid ((D7.out.next hb8 hown8).mono (show m + 2 + 6 * k + 3 + 1 + 1 ≤ m + 2 + 6 * (k + 1) by omega))
              clear hown8 hb8 D7
              go_wp2_with fail
              go_roundw
              case rel => exact ⟨k + 1, _, by omega, by go_num, by simp; omega, D8.out⟩
              case measure => simp [intOf]; omega
            · have HJ := Lib.hid hj
              clear hj
              go_wp2_with fail
              refine (specRoadsAdd_any A N xs.length c xs _ _ _ [] false w7 (sl_of_own_at enc3_len D7.out.2.2.2 rfl) (by omega) (by omega) (by omega) (.inr ⟨rfl, HJ.out, rfl⟩)).mono ?_
              rintro e w8 ⟨v8, rfl, hown8, hb8⟩
              have D8 := Lib.hid ((D7.out.below hb8).mono (show m + 2 + 6 * k + 3 + 1 + 1 ≤ m + 2 + 6 * (k + 1) by omega))
              clear hown8 hb8 D7
              go_wp2_with fail
              go_roundw
              case rel => exact ⟨k + 1, xs, by omega, by go_num, by omega, D8.out⟩
              case measure => simp [intOf]; omega
          by_cases hba : b < a
          · have hab2 : ¬ a ≤ b := by omega
            have hab3 : b ≤ a := by omega
            obtain ⟨A, c, rfl, -, hlc⟩ := D5.out.2.2.2.slc enc3_len rfl
            go_wp2_with fail
            refine (pick_any R (m + 2 + 6 * k + 3) 6 w5 D5.out.2.1 (by omega) (by omega)).mono ?_
            rintro e w6 ⟨p, rfl, p0, p1, -, hr, hg⟩
            have p1 := p1 (by omega)
            have D6 := Lib.hid (D5.out.pick hr hg)
            clear hr hg D5
            go_wp2_with fail
            refine (pick_any R (m + 2 + 6 * k + 3 + 1) 3 w6 D6.out.2.1 (by omega) (by omega)).mono ?_
            rintro e w7 ⟨q, rfl, q0, q1, -, hr, hg⟩
            have q1 := q1 (by omega)
            have D7 := Lib.hid (D6.out.pick hr hg)
            clear hr hg D6
            have pq : 0 ≤ p * (1 + q) ∧ p * (1 + q) ≤ 100 := by
              have : q = 0 ∨ q = 1 ∨ q = 2 := by omega
              rcases this with rfl | rfl | rfl <;> omega
            have w0q : IntKind.i64.wrap (1 + q) = 1 + q := IntWalk.i64_in _ (by omega)
            obtain ⟨pr, hpr⟩ : ∃ pr, p * (1 + q) = pr := ⟨_, rfl⟩
            have w1q : IntKind.i64.wrap (p * (1 + q)) = pr := by rw [IntWalk.i64_in _ (by omega), hpr]
            rw [hpr] at pq
            have w2q : IntKind.i64.wrap (1 + pr) = 1 + pr := IntWalk.i64_in _ (by omega)
            clear hpr
            by_cases hj : RoadOk N (xs ++ [⟨b, a, 1 + pr⟩])
            · have HJ := Lib.hid hj
              clear hj
              go_wp2_with fail
              refine (specRoadsAdd_any A N xs.length c xs _ _ _ (xs ++ [⟨b, a, 1 + pr⟩]) true w7 (sl_of_own_at enc3_len D7.out.2.2.2 rfl) (by omega) (by omega) (by omega) (.inl ⟨rfl, HJ.out, rfl⟩)).mono ?_
              rintro e w8 ⟨v8, rfl, hown8, hb8⟩
              have D8 := Lib.hid ((D7.out.next hb8 hown8).mono (show m + 2 + 6 * k + 3 + 1 + 1 ≤ m + 2 + 6 * (k + 1) by omega))
              clear hown8 hb8 D7
              go_wp2_with fail
              go_roundw
              case rel => exact ⟨k + 1, _, by omega, by go_num, by simp; omega, D8.out⟩
              case measure => simp [intOf]; omega
            · have HJ := Lib.hid hj
              clear hj
              go_wp2_with fail
              refine (specRoadsAdd_any A N xs.length c xs _ _ _ [] false w7 (sl_of_own_at enc3_len D7.out.2.2.2 rfl) (by omega) (by omega) (by omega) (.inr ⟨rfl, HJ.out, rfl⟩)).mono ?_
              rintro e w8 ⟨v8, rfl, hown8, hb8⟩
              have D8 := Lib.hid ((D7.out.below hb8).mono (show m + 2 + 6 * k + 3 + 1 + 1 ≤ m + 2 + 6 * (k + 1) by omega))
              clear hown8 hb8 D7
              go_wp2_with fail
              go_roundw
              case rel => exact ⟨k + 1, xs, by omega, by go_num, by omega, D8.out⟩
              case measure => simp [intOf]; omega
          obtain rfl : a = b := by omega
          clear hab hba
          obtain ⟨A, c, rfl, -, hlc⟩ := D5.out.2.2.2.slc enc3_len rfl
          go_wp2_with fail
          refine (pick_any R (m + 2 + 6 * k + 3) 6 w5 D5.out.2.1 (by omega) (by omega)).mono ?_
          rintro e w6 ⟨p, rfl, p0, p1, -, hr, hg⟩
          have p1 := p1 (by omega)
          have D6 := Lib.hid (D5.out.pick hr hg)
          clear hr hg D5
          go_wp2_with fail
          refine (pick_any R (m + 2 + 6 * k + 3 + 1) 3 w6 D6.out.2.1 (by omega) (by omega)).mono ?_
          rintro e w7 ⟨q, rfl, q0, q1, -, hr, hg⟩
          have q1 := q1 (by omega)
          have D7 := Lib.hid (D6.out.pick hr hg)
          clear hr hg D6
          have pq : 0 ≤ p * (1 + q) ∧ p * (1 + q) ≤ 100 := by
            have : q = 0 ∨ q = 1 ∨ q = 2 := by omega
            rcases this with rfl | rfl | rfl <;> omega
          have w0q : IntKind.i64.wrap (1 + q) = 1 + q := IntWalk.i64_in _ (by omega)
          obtain ⟨pr, hpr⟩ : ∃ pr, p * (1 + q) = pr := ⟨_, rfl⟩
          have w1q : IntKind.i64.wrap (p * (1 + q)) = pr := by rw [IntWalk.i64_in _ (by omega), hpr]
          rw [hpr] at pq
          have w2q : IntKind.i64.wrap (1 + pr) = 1 + pr := IntWalk.i64_in _ (by omega)
          clear hpr
          have HJ := Lib.hid (show ¬ RoadOk N (xs ++ [⟨a, a, 1 + pr⟩]) from fun h => by have := h.2.2.2.1 ⟨a, a, 1 + pr⟩ (by simp); dsimp only at this; omega)
          go_wp2_with fail
          refine (specRoadsAdd_any A N xs.length c xs _ _ _ [] false w7 (sl_of_own_at enc3_len D7.out.2.2.2 rfl) (by omega) (by omega) (by omega) (.inr ⟨rfl, HJ.out, rfl⟩)).mono ?_
          rintro e w8 ⟨v8, rfl, hown8, hb8⟩
          have D8 := Lib.hid ((D7.out.below hb8).mono (show m + 2 + 6 * k + 3 + 1 + 1 ≤ m + 2 + 6 * (k + 1) by omega))
          clear hown8 hb8 D7
          go_wp2_with fail
          go_roundw
          case rel => exact ⟨k + 1, xs, by omega, by go_num, by omega, D8.out⟩
          case measure => simp [intOf]; omega
      · by_cases hab : a < b
        · have hab2 : ¬ b ≤ a := by omega
          have hab3 : a ≤ b := by omega
          obtain ⟨A, c, rfl, -, hlc⟩ := D4.out.2.2.2.slc enc3_len rfl
          go_wp2_with fail
          refine (pick_any R (m + 2 + 6 * k + 2) 6 w4 D4.out.2.1 (by omega) (by omega)).mono ?_
          rintro e w6 ⟨p, rfl, p0, p1, -, hr, hg⟩
          have p1 := p1 (by omega)
          have D6 := Lib.hid (D4.out.pick hr hg)
          clear hr hg D4
          go_wp2_with fail
          refine (pick_any R (m + 2 + 6 * k + 2 + 1) 3 w6 D6.out.2.1 (by omega) (by omega)).mono ?_
          rintro e w7 ⟨q, rfl, q0, q1, -, hr, hg⟩
          have q1 := q1 (by omega)
          have D7 := Lib.hid (D6.out.pick hr hg)
          clear hr hg D6
          have pq : 0 ≤ p * (1 + q) ∧ p * (1 + q) ≤ 100 := by
            have : q = 0 ∨ q = 1 ∨ q = 2 := by omega
            rcases this with rfl | rfl | rfl <;> omega
          have w0q : IntKind.i64.wrap (1 + q) = 1 + q := IntWalk.i64_in _ (by omega)
          obtain ⟨pr, hpr⟩ : ∃ pr, p * (1 + q) = pr := ⟨_, rfl⟩
          have w1q : IntKind.i64.wrap (p * (1 + q)) = pr := by rw [IntWalk.i64_in _ (by omega), hpr]
          rw [hpr] at pq
          have w2q : IntKind.i64.wrap (1 + pr) = 1 + pr := IntWalk.i64_in _ (by omega)
          clear hpr
          by_cases hj : RoadOk N (xs ++ [⟨a, b, 1 + pr⟩])
          · have HJ := Lib.hid hj
            clear hj
            go_wp2_with fail
            refine (specRoadsAdd_any A N xs.length c xs _ _ _ (xs ++ [⟨a, b, 1 + pr⟩]) true w7 (sl_of_own_at enc3_len D7.out.2.2.2 rfl) (by omega) (by omega) (by omega) (.inl ⟨rfl, HJ.out, rfl⟩)).mono ?_
            rintro e w8 ⟨v8, rfl, hown8, hb8⟩
            have D8 := Lib.hid ((D7.out.next hb8 hown8).mono (show m + 2 + 6 * k + 2 + 1 + 1 ≤ m + 2 + 6 * (k + 1) by omega))
            clear hown8 hb8 D7
            go_wp2_with fail
            go_roundw
            case rel => exact ⟨k + 1, _, by omega, by go_num, by simp; omega, D8.out⟩
            case measure => simp [intOf]; omega
          · have HJ := Lib.hid hj
            clear hj
            go_wp2_with fail
            refine (specRoadsAdd_any A N xs.length c xs _ _ _ [] false w7 (sl_of_own_at enc3_len D7.out.2.2.2 rfl) (by omega) (by omega) (by omega) (.inr ⟨rfl, HJ.out, rfl⟩)).mono ?_
            rintro e w8 ⟨v8, rfl, hown8, hb8⟩
            have D8 := Lib.hid ((D7.out.below hb8).mono (show m + 2 + 6 * k + 2 + 1 + 1 ≤ m + 2 + 6 * (k + 1) by omega))
            clear hown8 hb8 D7
            go_wp2_with fail
            go_roundw
            case rel => exact ⟨k + 1, xs, by omega, by go_num, by omega, D8.out⟩
            case measure => simp [intOf]; omega
        by_cases hba : b < a
        · have hab2 : ¬ a ≤ b := by omega
          have hab3 : b ≤ a := by omega
          obtain ⟨A, c, rfl, -, hlc⟩ := D4.out.2.2.2.slc enc3_len rfl
          go_wp2_with fail
          refine (pick_any R (m + 2 + 6 * k + 2) 6 w4 D4.out.2.1 (by omega) (by omega)).mono ?_
          rintro e w6 ⟨p, rfl, p0, p1, -, hr, hg⟩
          have p1 := p1 (by omega)
          have D6 := Lib.hid (D4.out.pick hr hg)
          clear hr hg D4
          go_wp2_with fail
          refine (pick_any R (m + 2 + 6 * k + 2 + 1) 3 w6 D6.out.2.1 (by omega) (by omega)).mono ?_
          rintro e w7 ⟨q, rfl, q0, q1, -, hr, hg⟩
          have q1 := q1 (by omega)
          have D7 := Lib.hid (D6.out.pick hr hg)
          clear hr hg D6
          have pq : 0 ≤ p * (1 + q) ∧ p * (1 + q) ≤ 100 := by
            have : q = 0 ∨ q = 1 ∨ q = 2 := by omega
            rcases this with rfl | rfl | rfl <;> omega
          have w0q : IntKind.i64.wrap (1 + q) = 1 + q := IntWalk.i64_in _ (by omega)
          obtain ⟨pr, hpr⟩ : ∃ pr, p * (1 + q) = pr := ⟨_, rfl⟩
          have w1q : IntKind.i64.wrap (p * (1 + q)) = pr := by rw [IntWalk.i64_in _ (by omega), hpr]
          rw [hpr] at pq
          have w2q : IntKind.i64.wrap (1 + pr) = 1 + pr := IntWalk.i64_in _ (by omega)
          clear hpr
          by_cases hj : RoadOk N (xs ++ [⟨b, a, 1 + pr⟩])
          · have HJ := Lib.hid hj
            clear hj
            go_wp2_with fail
            refine (specRoadsAdd_any A N xs.length c xs _ _ _ (xs ++ [⟨b, a, 1 + pr⟩]) true w7 (sl_of_own_at enc3_len D7.out.2.2.2 rfl) (by omega) (by omega) (by omega) (.inl ⟨rfl, HJ.out, rfl⟩)).mono ?_
            rintro e w8 ⟨v8, rfl, hown8, hb8⟩
            have D8 := Lib.hid ((D7.out.next hb8 hown8).mono (show m + 2 + 6 * k + 2 + 1 + 1 ≤ m + 2 + 6 * (k + 1) by omega))
            clear hown8 hb8 D7
            go_wp2_with fail
            go_roundw
            case rel => exact ⟨k + 1, _, by omega, by go_num, by simp; omega, D8.out⟩
            case measure => simp [intOf]; omega
          · have HJ := Lib.hid hj
            clear hj
            go_wp2_with fail
            refine (specRoadsAdd_any A N xs.length c xs _ _ _ [] false w7 (sl_of_own_at enc3_len D7.out.2.2.2 rfl) (by omega) (by omega) (by omega) (.inr ⟨rfl, HJ.out, rfl⟩)).mono ?_
            rintro e w8 ⟨v8, rfl, hown8, hb8⟩
            have D8 := Lib.hid ((D7.out.below hb8).mono (show m + 2 + 6 * k + 2 + 1 + 1 ≤ m + 2 + 6 * (k + 1) by omega))
            clear hown8 hb8 D7
            go_wp2_with fail
            go_roundw
            case rel => exact ⟨k + 1, xs, by omega, by go_num, by omega, D8.out⟩
            case measure => simp [intOf]; omega
        obtain rfl : a = b := by omega
        clear hab hba
        obtain ⟨A, c, rfl, -, hlc⟩ := D4.out.2.2.2.slc enc3_len rfl
        go_wp2_with fail
        refine (pick_any R (m + 2 + 6 * k + 2) 6 w4 D4.out.2.1 (by omega) (by omega)).mono ?_
        rintro e w6 ⟨p, rfl, p0, p1, -, hr, hg⟩
        have p1 := p1 (by omega)
        have D6 := Lib.hid (D4.out.pick hr hg)
        clear hr hg D4
        go_wp2_with fail
        refine (pick_any R (m + 2 + 6 * k + 2 + 1) 3 w6 D6.out.2.1 (by omega) (by omega)).mono ?_
        rintro e w7 ⟨q, rfl, q0, q1, -, hr, hg⟩
        have q1 := q1 (by omega)
        have D7 := Lib.hid (D6.out.pick hr hg)
        clear hr hg D6
        have pq : 0 ≤ p * (1 + q) ∧ p * (1 + q) ≤ 100 := by
          have : q = 0 ∨ q = 1 ∨ q = 2 := by omega
          rcases this with rfl | rfl | rfl <;> omega
        have w0q : IntKind.i64.wrap (1 + q) = 1 + q := IntWalk.i64_in _ (by omega)
        obtain ⟨pr, hpr⟩ : ∃ pr, p * (1 + q) = pr := ⟨_, rfl⟩
        have w1q : IntKind.i64.wrap (p * (1 + q)) = pr := by rw [IntWalk.i64_in _ (by omega), hpr]
        rw [hpr] at pq
        have w2q : IntKind.i64.wrap (1 + pr) = 1 + pr := IntWalk.i64_in _ (by omega)
        clear hpr
        have HJ := Lib.hid (show ¬ RoadOk N (xs ++ [⟨a, a, 1 + pr⟩]) from fun h => by have := h.2.2.2.1 ⟨a, a, 1 + pr⟩ (by simp); dsimp only at this; omega)
        go_wp2_with fail
        refine (specRoadsAdd_any A N xs.length c xs _ _ _ [] false w7 (sl_of_own_at enc3_len D7.out.2.2.2 rfl) (by omega) (by omega) (by omega) (.inr ⟨rfl, HJ.out, rfl⟩)).mono ?_
        rintro e w8 ⟨v8, rfl, hown8, hb8⟩
        have D8 := Lib.hid ((D7.out.below hb8).mono (show m + 2 + 6 * k + 2 + 1 + 1 ≤ m + 2 + 6 * (k + 1) by omega))
        clear hown8 hb8 D7
        go_wp2_with fail
        go_roundw
        case rel => exact ⟨k + 1, xs, by omega, by go_num, by omega, D8.out⟩
        case measure => simp [intOf]; omega
    · have hkn : k = n := by omega
      subst hkn
      clear hlt hk
      obtain ⟨A, c, rfl, -, hkc⟩ := HD.out.2.2.2.slc enc3_len rfl
      generalize hlen : xs.length = len at *
      have HL := Lib.hid hlen
      clear hlen
      by_cases hn0 : len = 0
      · subst hn0
        go_wp2_with fail
        go_ret2
        exact DrawnR.of HD.out (by omega) (by omega) (by rw [HL.out]; omega) (by omega)
      · have hn1 : 0 < len := by omega
        obtain ⟨g, rfl, -, hg0, hg1, hfz⟩ := HD.out.2.2.2.form (by rw [HL.out]; omega)
        go_wp2_with fail
        refine (pick_any R (m + 2 + 6 * k) 40 wr HD.out.2.1 (by omega) (by omega)).mono ?_
        rintro e w3 ⟨x2, rfl, b0, b1, -, hr, hg⟩
        have D3 := Lib.hid (HD.out.pick hr hg)
        clear hr hg HD b1 hfz hg1
        have hx0 : xs[0]? = some (xs[0]'(by rw [HL.out]; omega)) := List.getElem?_eq_getElem (by rw [HL.out]; omega)
        generalize (xs[0]'(by rw [HL.out]; omega)) = p0 at *
        obtain ⟨pa, pb, pc⟩ := p0
        have HX0 := Lib.hid hx0
        clear hx0
        by_cases e0 : x2 = 0
        · go_wp2_with fail
          refine (pick_any R (m + 2 + 6 * k + 1) 3 _ (D3.out.alloc _).2.1 (by omega) (by omega)).mono ?_
          rintro e w4 ⟨x3, rfl, c0, c1, -, hr, hg⟩
          have c1 := c1 (by omega)
          obtain ⟨x3, rfl⟩ : ∃ i : Nat, x3 = i := ⟨x3.toNat, by omega⟩
          obtain ⟨z, hz, hzm⟩ := lit_at [0, 100, 99] _ rfl (by simp) hg (Nat.lt_of_lt_of_le hRw D3.out.size) (x := x3) (by simp; omega)
          have D4 := Lib.hid ((D3.out.alloc _).pick hr hg)
          have ht := own3_one D4.out.2.2.2 HL.out (j := 2) z (flat3_setC xs 0 ⟨pa, pb, pc⟩ z HX0.out) (by simp)
          have D5 := Lib.hid (D4.out.to ht.2 ht.1)
          have hfz := OwnE.frozen D4.out.2.2.2
          obtain ⟨q0, q1, q2⟩ := OwnE.cell3 D4.out.2.2.2 (j := 0) HX0.out
          simp only [Nat.zero_mul, Nat.zero_add] at q0 q1 q2
          clear hr hg D3 D4 hzm ht
          go_wp2_with fail
          go_ret2
          exact DrawnR.of D5.out (by omega) (by omega) (by simp; rw [HL.out]; omega) (by omega)
        by_cases e1 : x2 = 1
        · have hsz := D3.out.size
          obtain ⟨q0, q1, q2⟩ := OwnE.cell3 D3.out.2.2.2 (j := 0) HX0.out
          simp only [Nat.zero_mul, Nat.zero_add] at q0 q1 q2
          go_wp2_with (at_builtin; refine wpList_push 3 24 43 enc3 enc3_len enc3_one (by omega) ⟨pa, pb, pc⟩ _ _ rfl rfl _ _ _ rfl Tryz.underlying38 info_conR rfl w.heap.size _ xs rfl rfl (by simp) D3.out.2.2.2 (by rw [HL.out]; omega) (by rw [HL.out]; unfold maxLen; omega) hsz ?_; intro v' w' hown' hg'; have D5 := Lib.hid (D3.out.to hg' hown'); clear hown' hg')
          obtain ⟨A3, c3, rfl, -, -⟩ := D5.out.2.2.2.slc enc3_len (n := len + 1) (by simp [HL.out])
          go_wp2_with fail
          go_ret2
          exact DrawnR.of D5.out (by omega) (by omega) (by simp; rw [HL.out]; omega) (by omega)
        by_cases e2 : x2 = 2
        · have ht := own3_one D3.out.2.2.2 HL.out (j := 1) N (flat3_setB xs 0 ⟨pa, pb, pc⟩ N HX0.out) (by simp)
          have D5 := Lib.hid (D3.out.to ht.2 ht.1)
          have hfz := OwnE.frozen D3.out.2.2.2
          obtain ⟨q0, q1, q2⟩ := OwnE.cell3 D3.out.2.2.2 (j := 0) HX0.out
          simp only [Nat.zero_mul, Nat.zero_add] at q0 q1 q2
          clear D3 ht
          go_wp2_with fail
          go_ret2
          exact DrawnR.of D5.out (by omega) (by omega) (by simp; rw [HL.out]; omega) (by omega)
        · go_wp2_with fail
          go_ret2
          exact DrawnR.of D3.out (by omega) (by omega) (by rw [HL.out]; omega) (by omega)

/-- Roads and two towns have been drawn. -/
def DrawnRR (w : World) (R m : Nat) (e : Ending) (w' : World) : Prop :=
  ∃ n v xs a b, e = .returned (.tuple #[.int .i64 n, v, .int .i64 a, .int .i64 b]) ∧ 2 ≤ n ∧ n ≤ 6 ∧ xs.length ≤ 12 ∧ DGT 43 w R m v xs w'
set_option maxRecDepth 20000 in
set_option maxHeartbeats 3200000 in
theorem l91Two_any (R m : Nat) (w : World) (h : RdAt w R m) (hm : m ≤ 40000) :
    Calls Tryz.prog 50 #[.pointer (some ⟨R, 0, none⟩)] w (DrawnRR w R (m + 70)) := by
  have H := Lib.hid h
  clear h
  go_enter Tryz.func50, Tryz.ntmps50
  go_wp2_with fail
  refine (l91Roads_any R m w H.out (by omega)).mono ?_
  rintro e w1 ⟨N, v, xs, rfl, hN1, hN2, hl, hd⟩
  have D1 := Lib.hid hd
  obtain ⟨A, c, rfl, -, hlc⟩ := hd.2.2.2.slc enc3_len rfl
  clear hd H
  generalize hlen : xs.length = len at *
  have HL := Lib.hid hlen
  clear hlen
  by_cases h0 : 0 < len
  · have h0z : (0 : Int) < (len : Int) := by omega
    go_wp2_with fail
    refine (pick_any R (m + 60) 3 w1 D1.out.2.1 (by omega) (by omega)).mono ?_
    rintro e w2 ⟨x2, rfl, a0, a1, -, hr, hg⟩
    have D2 := Lib.hid (D1.out.pick hr hg)
    clear hr hg D1 a1
    by_cases e0 : x2 = 0
    · go_wp2_with fail
      refine (pick_any R (m + 61) len w2 D2.out.2.1 (by omega) (by omega)).mono ?_
      rintro e w3 ⟨x3, rfl, c0, c1, -, hr, hg⟩
      have c1 := c1 (by omega)
      obtain ⟨x3, rfl⟩ : ∃ i : Nat, x3 = i := ⟨x3.toNat, by omega⟩
      have hx3 : x3 < len := by omega
      have D3 := Lib.hid (D2.out.pick hr hg)
      clear hr hg D2
      obtain ⟨bb, off, px, py, pz, rfl, hbl, hx, hdr, g0, g1, g2⟩ := at3 (sl_of_own_at enc3_len D3.out.2.2.2 HL.out) (Below.refl _ _) hx3
      have D4 := Lib.hid ((D3.out.alloc (.cells #[.int .i64 px, .int .i64 py, .int .i64 pz] 43)).mono (show m + 61 + 1 ≤ m + 70 by omega)).drew
      clear hx hdr
      go_wp2_with fail
      go_region
      go_wp2_with fail
      (try simp only [Exit.inBlock, Exit.then])
      refine bodyPost_ret (results_tmp4 rfl _ _ _) rfl ?_
      exact ⟨N, _, xs, py, px, rfl, hN1, hN2, by rw [HL.out]; exact hl, D4.out⟩
    · go_wp2_with fail
      refine (l91Town_any R (m + 61) N w2 D2.out.2.1 (by omega) (by omega) (by omega)).mono ?_
      rintro e w3 ⟨a, rfl, -, -, hr, hg⟩
      have D3 := Lib.hid (D2.out.pick hr hg)
      clear hr hg D2
      go_wp2_with fail
      refine (l91Town_any R (m + 61 + 2) N w3 D3.out.2.1 (by omega) (by omega) (by omega)).mono ?_
      rintro e w4 ⟨b, rfl, -, -, hr, hg⟩
      have D4 := Lib.hid ((D3.out.pick hr hg).mono (show m + 61 + 2 + 2 ≤ m + 70 by omega))
      clear hr hg D3
      go_wp2_with fail
      (try simp only [Exit.inBlock, Exit.then])
      refine bodyPost_ret (results_tmp4 rfl _ _ _) rfl ?_
      exact ⟨N, _, xs, a, b, rfl, hN1, hN2, by rw [HL.out]; exact hl, D4.out⟩
  · obtain rfl : len = 0 := by omega
    go_wp2_with fail
    refine (l91Town_any R (m + 60) N w1 D1.out.2.1 (by omega) (by omega) (by omega)).mono ?_
    rintro e w3 ⟨a, rfl, -, -, hr, hg⟩
    have D3 := Lib.hid (D1.out.pick hr hg)
    clear hr hg D1
    go_wp2_with fail
    refine (l91Town_any R (m + 60 + 2) N w3 D3.out.2.1 (by omega) (by omega) (by omega)).mono ?_
    rintro e w4 ⟨b, rfl, -, -, hr, hg⟩
    have D4 := Lib.hid ((D3.out.pick hr hg).mono (show m + 60 + 2 + 2 ≤ m + 70 by omega))
    clear hr hg D3
    go_wp2_with fail
    (try simp only [Exit.inBlock, Exit.then])
    refine bodyPost_ret (results_tmp4 rfl _ _ _) rfl ?_
    exact ⟨N, _, xs, a, b, rfl, hN1, hN2, by rw [HL.out]; exact hl, D4.out⟩
/-- A number of towns, roads and two towns have been drawn. -/
def DrewRR (w : World) (e : Ending) (w' : World) : Prop :=
  ∃ n v xs a b, e = .returned (.tuple #[.int .i64 n, v, .int .i64 a, .int .i64 b]) ∧ 2 ≤ n ∧ n ≤ 6 ∧ xs.length ≤ 12 ∧ OwnE 3 enc3 43 w.heap.size w' v xs ∧ Below w.heap.size w w'
set_option maxRecDepth 20000 in
set_option maxHeartbeats 1600000 in
theorem drawRoadsWay_any (A : Option Addr) (n c : Nat) (bs : List Int) (w : World) (h : SlE 1 encU w A n bs) (hb : Bytes bs) (hn : n ≤ 1048576) (hc : n ≤ c) :
    Calls Tryz.prog 23 #[.slice A n c] w (DrewRR w) := by
  have H := Lib.hid h
  have HB := Lib.hid hb
  clear h hb
  go_enter Tryz.func23, Tryz.ntmps23
  go_wp2_with fail
  refine (l6Open_any A n c bs w H.out HB.out hn hc).mono ?_
  rintro e w1 ⟨rfl, hr, hb1, hs1⟩
  have HR := Lib.hid hr
  have HB1 := Lib.hid hb1
  clear hr hb1 H HB
  go_wp2_with fail
  refine (l91Two_any w.heap.size 0 w1 HR.out (by omega)).mono ?_
  rintro e w2 ⟨k, v, xs, a, b, rfl, k0, k1, hl, hd⟩
  have D2 := Lib.hid hd
  clear hd HR
  go_wp2_with fail
  (try simp only [Exit.inBlock, Exit.then])
  refine bodyPost_ret (results_tmp4 rfl _ _ _) rfl ?_
  exact ⟨k, v, xs, a, b, rfl, by omega, by omega, hl, D2.out.2.2.2.base_le (by omega), below_rd HB1.out D2.out.2.2.1⟩
end Go.Proofs.YtgjllminidlolaaGreatDoor
/- Contracts: the heap of towns: its methods. -/
set_option linter.unusedVariables false
namespace Go.Proofs.YtgjllminidlolaaGreatDoor
open Go.RowKit

def enc2 (p : P2) : List Value := [.int .i64 p.t, .int .i64 p.d]
theorem enc2_len (x : P2) : (enc2 x).length = 2 := rfl
theorem enc2_one (x : P2) : ∀ u ∈ enc2 x, u.oneCell' = true := by intro u hu; simp [enc2] at hu; rcases hu with rfl | rfl <;> rfl
theorem info_town : (Tryz.prog.info? 150).map (fun i => (i.zero, i.size, i.bytes)) = some (some (.agg #[.int .i64 0, .int .i64 0]), 2, 16) := by kernel_rfl
theorem flat2_set : ∀ (xs : List P2) (j : Nat) (p : P2), j < xs.length →
    ((xs.flatMap enc2).set (j * 2) (.int .i64 p.t)).set (j * 2 + 1) (.int .i64 p.d) = (xs.set j p).flatMap enc2
  | [], _, _, h => absurd h (by simp)
  | x :: xs, 0, p, _ => by simp [enc2]
  | x :: xs, j + 1, p, h => by
    have ih := flat2_set xs j p (by simpa using h)
    have e0 : (j + 1) * 2 = j * 2 + 1 + 1 := by omega
    simp only [List.flatMap_cons, List.set_cons_succ, ← ih, enc2, List.cons_append, List.nil_append, e0]
theorem own2_set {w : World} {base ty g cap n : Nat} {xs : List P2} (h : OwnE 2 enc2 ty base w (.slice (some ⟨g, 0, none⟩) n cap) xs) (hn : xs.length = n) {j : Nat} (hj : j < n) (x y : Int) :
    OwnE 2 enc2 ty base ((w.setCell ⟨g, j * 2, none⟩ (.int .i64 x)).setCell ⟨g, j * 2 + 1, none⟩ (.int .i64 y)) (.slice (some ⟨g, 0, none⟩) n cap) (xs.set j ⟨x, y⟩) ∧
      w.grownBy ((w.setCell ⟨g, j * 2, none⟩ (.int .i64 x)).setCell ⟨g, j * 2 + 1, none⟩ (.int .i64 y)) (some g) := by
  subst hn
  have h1 := World.ownsRow.stored h (j * 2) (.int .i64 x)
  have h2 := World.ownsRow.stored h1.1 (j * 2 + 1) (.int .i64 y)
  refine ⟨?_, grown_trans h1.2 h2.2⟩
  unfold OwnE
  rw [List.length_set, ← flat2_set xs j ⟨x, y⟩ hj]
  exact h2.1
theorem OwnE.cell2 {ty base : Nat} {w : World} {g c n : Nat} {xs : List P2} (h : OwnE 2 enc2 ty base w (.slice (some ⟨g, 0, none⟩) n c) xs) {j : Nat} {p : P2} (hp : xs[j]? = some p) :
    w.cell? ⟨g, j * 2, none⟩ = some (.int .i64 p.t) ∧ w.cell? ⟨g, j * 2 + 1, none⟩ = some (.int .i64 p.d) :=
  ⟨OwnE.cell enc2_len h hp (i := 0) rfl, OwnE.cell enc2_len h hp (i := 1) rfl⟩
theorem grown_dr {a b : World} {r : Option Nat} (h : a.grownBy b r) : a.grownBy b.drew r := ⟨h.os, h.tape, h.output, h.size, h.block⟩
theorem bd_drewN {B : Nat} {a b : World} (h : Below B a b) (n : Nat) : Below B a (b.drewN n) := ⟨h.os, h.tape, h.output, h.size, h.block⟩
/-- The towns of a heap. -/
def lstF (n : Nat) (f : Nat → P2) : List P2 := (List.range n).map f
theorem lstF_len (n : Nat) (f : Nat → P2) : (lstF n f).length = n := by simp [lstF]
theorem lstF_at {n k : Nat} (f : Nat → P2) (h : k < n) : (lstF n f)[k]? = some (f k) := by simp [lstF, h]
theorem lstF_swap {n i j : Nat} (f : Nat → P2) (hi : i < n) (hj : j < n) : ((lstF n f).set i (f j)).set j (f i) = lstF n (swF f i j) := by
  apply List.ext_getElem?
  intro k
  by_cases hk : k < n
  · rw [lstF_at _ hk]
    by_cases e : k = j
    · subst e
      rw [List.getElem?_set_self (by rw [List.length_set, lstF_len]; exact hk), swF_r]
    · rw [List.getElem?_set_ne (fun h => e h.symm)]
      by_cases e2 : k = i
      · subst e2
        rw [List.getElem?_set_self (by rw [lstF_len]; exact hk), swF_l]
      · rw [List.getElem?_set_ne (fun h => e2 h.symm), lstF_at _ hk, swF_o _ e2 e]
  · rw [List.getElem?_eq_none (by rw [List.length_set, List.length_set, lstF_len]; omega), List.getElem?_eq_none (by rw [lstF_len]; omega)]
theorem lstF_congr {n : Nat} {f g : Nat → P2} (h : ∀ k, k < n → f k = g k) : lstF n f = lstF n g := by
  apply List.ext_getElem?
  intro k
  by_cases hk : k < n
  · rw [lstF_at _ hk, lstF_at _ hk, h k hk]
  · rw [List.getElem?_eq_none (by rw [lstF_len]; omega), List.getElem?_eq_none (by rw [lstF_len]; omega)]
theorem lstF_snoc (n : Nat) (f : Nat → P2) : lstF (n + 1) f = lstF n f ++ [f n] := by simp [lstF, List.range_succ]
theorem lstF_take (n : Nat) (f : Nat → P2) : (lstF (n + 1) f).take n = lstF n f := by
  rw [lstF_snoc, List.take_left' (lstF_len n f)]

set_option maxRecDepth 20000 in
set_option maxHeartbeats 1600000 in
theorem thLess_any (base g n c i j : Nat) (f : Nat → P2) (w : World) (h : OwnE 2 enc2 150 base w (.slice (some ⟨g, 0, none⟩) n c) (lstF n f)) (hi : i < n) (hj : j < n) :
    Calls Tryz.prog 248 #[.slice (some ⟨g, 0, none⟩) n c, .int .i64 i, .int .i64 j] w (OnlyB ((f i).d < (f j).d) w) := by
  have ci := (OwnE.cell2 h (lstF_at f hi)).2
  have cj := (OwnE.cell2 h (lstF_at f hj)).2
  clear h
  generalize (f i).d = x at *
  generalize (f j).d = y at *
  go_enter Tryz.func248, Tryz.ntmps248
  go_wp2_with fail
  go_quiet (fail)
  go_wp2_with fail
  go_ret
  exact ⟨_, rfl, by simp, bd_drewN (Below.refl _ _) _⟩
set_option maxRecDepth 20000 in
set_option maxHeartbeats 1600000 in
theorem thLen_any (v : Value) (A : Option Addr) (n c : Nat) (w : World) :
    Calls Tryz.prog 89 #[.slice A n c] w (Same (.int .i64 n) w) := by
  go_enter Tryz.func89, Tryz.ntmps89
  go_wp2_with fail
  go_ret
  exact ⟨rfl, rfl⟩
/-- Two towns have been exchanged. -/
def Swapped (base g n c : Nat) (f : Nat → P2) (w : World) (e : Ending) (w' : World) : Prop :=
  e = .returned (.tuple #[]) ∧ OwnE 2 enc2 150 base w' (.slice (some ⟨g, 0, none⟩) n c) (lstF n f) ∧ w.grownBy w' (some g)
set_option maxRecDepth 20000 in
set_option maxHeartbeats 3200000 in
theorem thSwap_any (base g n c i j : Nat) (f : Nat → P2) (w : World) (h : OwnE 2 enc2 150 base w (.slice (some ⟨g, 0, none⟩) n c) (lstF n f)) (hi : i < n) (hj : j < n) :
    Calls Tryz.prog 251 #[.slice (some ⟨g, 0, none⟩) n c, .int .i64 i, .int .i64 j] w (Swapped base g n c (swF f i j) w) := by
  obtain ⟨ci, ci'⟩ := OwnE.cell2 h (lstF_at f hi)
  obtain ⟨cj, cj'⟩ := OwnE.cell2 h (lstF_at f hj)
  have hfz := h.frozen
  have S1 := own2_set h (lstF_len n f) hi (f j).t (f j).d
  have S2 := own2_set S1.1 (by rw [List.length_set]; exact lstF_len n f) hj (f i).t (f i).d
  have e : ((lstF n f).set i ⟨(f j).t, (f j).d⟩).set j ⟨(f i).t, (f i).d⟩ = lstF n (swF f i j) := lstF_swap f hi hj
  rw [e] at S2
  have HS := Lib.hid (And.intro S2.1 (grown_trans S1.2 S2.2))
  have h1 : (w.setCell ⟨g, i * 2, none⟩ (.int .i64 (f j).t)).cell? ⟨g, j * 2, none⟩ = some (.int .i64 (f j).t) := by
    by_cases hij : i = j
    · subst hij; exact World.cell?_setCell_same _ _ _ ci
    · rw [World.cell?_setCell_other _ _ _ _ (by simp <;> omega)]; exact cj
  have h2 : ((w.setCell ⟨g, i * 2, none⟩ (.int .i64 (f j).t)).setCell ⟨g, i * 2 + 1, none⟩ (.int .i64 (f j).d)).cell? ⟨g, j * 2 + 1, none⟩ = some (.int .i64 (f j).d) := by
    by_cases hij : i = j
    · subst hij; exact World.cell?_setCell_same _ _ _ (by rw [World.cell?_setCell_other _ _ _ _ (by simp)]; exact ci')
    · rw [World.cell?_setCell_other _ _ _ _ (by simp <;> omega), World.cell?_setCell_other _ _ _ _ (by simp <;> omega)]; exact cj'
  have h3 : (w.setCell ⟨g, i * 2 + 1, none⟩ (.int .i64 (f j).d)).cell? ⟨g, j * 2 + 1, none⟩ = some (.int .i64 (f j).d) := by
    by_cases hij : i = j
    · subst hij; exact World.cell?_setCell_same _ _ _ ci'
    · rw [World.cell?_setCell_other _ _ _ _ (by simp <;> omega)]; exact cj'
  have hij2 : i * 2 ≠ j * 2 + 1 := by omega
  have hij3 : i * 2 + 1 ≠ j * 2 := by omega
  clear h S1 S2 e
  generalize (f i).t = p1 at *
  generalize (f i).d = p2 at *
  generalize (f j).t = q1 at *
  generalize (f j).d = q2 at *
  go_enter Tryz.func251, Tryz.ntmps251
  go_wp2_with fail
  go_region
  go_wp2_with fail
  go_end0
  exact ⟨rfl, HS.out.1, grown_dr HS.out.2⟩
end Go.Proofs.YtgjllminidlolaaGreatDoor
/- append(v, s...) as a step of a walk, with where the new slice lies. -/
set_option linter.unusedVariables false
namespace Go.Proofs.YtgjllminidlolaaGreatDoor
open Go.RowKit

section
variable {P : Program} {α : Type} {k bytes ty base : Nat} {enc : α → List Value} {W : World} {v : Value} {xs ys : List α}
theorem run_cat_at (hk : ∀ x, (enc x).length = k) (h1 : ∀ x, ∀ u ∈ enc x, u.oneCell' = true) (hk0 : 0 < k) {t tr : TypeId} (ht : P.underlying t = some (.slice ty)) {z : Value}
    (hinfo : (P.info? ty).map (fun i => (i.zero, i.size, i.bytes)) = some (some z, k, bytes)) (hz : z.cells.size = k) (hown : OwnE k enc ty base W v xs) {A : Option Addr} {m c : Nat} (hs : SlE k enc W A m ys)
    (hbytes : (xs.length + m) * bytes ≤ 140737488355328) (h63 : xs.length + m ≤ maxLen) (hbase : base ≤ W.heap.size) :
    ∃ v' w', (Builtin.append_ #[t, t] tr #[v, .slice A m c]).run P W = .ok v' w' ∧ OwnE k enc ty base w' v' (xs ++ ys) ∧ W.grownBy w' v.ownBlock ∧ (v'.ownBlock = v.ownBlock ∨ v'.ownBlock = some W.heap.size) := by
  obtain ⟨i0, hi, hz0, hz1, hz2⟩ := info_parts hinfo
  have hm := hs.len
  subst hm
  have hfl : ((xs ++ ys).flatMap enc) = xs.flatMap enc ++ ys.flatMap enc := by simp
  rcases A with _ | ad
  · have hm : ys.length = 0 := by
      rcases Nat.eq_zero_or_pos ys.length with h0 | h0
      · exact h0
      · obtain ⟨b, off, hA, _⟩ := hs.2 h0
        cases hA
    have hy : ys = [] := List.eq_nil_of_length_eq_zero hm
    subst hy
    refine ⟨v, W, ?_, by simpa using hown, World.grownBy.refl _ _, .inl rfl⟩
    rcases hown.2 with ⟨rfl, hx0⟩ | ⟨g, cap, cur, rfl, _, _, hnc, _⟩
    · simp [Builtin.append_, run_underlying ht, sizeOf, typeInfo, hi, Builtin.lenOf, Builtin.firstCells]
    · simp [Builtin.append_, run_underlying ht, sizeOf, typeInfo, hi, Builtin.lenOf, Builtin.firstCells, hnc, storeCells]
  · have hnews : ∀ j u, (ys.flatMap enc)[j]? = some u → W.cell? (ad.add j) = some u := by
      intro j u hu
      have hl : j < ys.length * k := by
        rcases Nat.lt_or_ge j (ys.length * k) with h | h
        · exact h
        · rw [List.getElem?_eq_none (by rw [flat_len hk]; exact h)] at hu; cases hu
      have h0 : 0 < ys.length := by
        rcases Nat.eq_zero_or_pos ys.length with h0 | h0
        · rw [h0] at hl; omega
        · exact h0
      obtain ⟨b, off, hA, _, hc⟩ := hs.2 h0
      injection hA with hA
      subst hA
      have hj : j / k < ys.length := (Nat.div_lt_iff_lt_mul hk0).2 hl
      have hi' : j % k < (enc ys[j / k]).length := by rw [hk]; exact Nat.mod_lt _ hk0
      have e : j / k * k + j % k = j := by rw [Nat.mul_comm]; exact Nat.div_add_mod j k
      have h3 := flat_at hk ys (j / k) _ (List.getElem?_eq_getElem hj) (j % k) _ (List.getElem?_eq_getElem hi')
      rw [e, hu] at h3
      have h4 := hc (j / k) _ (List.getElem?_eq_getElem hj) (j % k) _ (List.getElem?_eq_getElem hi')
      rw [e, ← h3] at h4
      unfold Addr.add
      split
      · rename_i hj0; rw [hj0] at h4; exact h4
      · exact h4
    obtain ⟨v', w', hr, h2, h3, _, h5⟩ := run_append_own_at (P := P) W base t tr ty i0 z k bytes ht hi hz0 hz1 hz2 hz hk0 v xs.length (xs.flatMap enc) hown ad ys.length c (ys.flatMap enc) (by rw [flat_len hk]) hnews
      (by intro u hu; obtain ⟨x, _, hx⟩ := List.mem_flatMap.1 hu; exact h1 x u hx) h63 hbytes hbase
    refine ⟨v', w', hr, ?_, h3, h5⟩
    unfold OwnE
    rw [hfl, List.length_append]
    exact h2
/-- append(v, s...) as a step of a walk. -/
theorem wpList_cat_at {ops : Array Oper} {rest : List Oper} {o : Oper} {a : Act} {Q : Exit → Act → World → Prop} (hk : ∀ x, (enc x).length = k) (h1 : ∀ x, ∀ u ∈ enc x, u.oneCell' = true) (hk0 : 0 < k)
    (hgd : o.guard = none) (s y : Operand) (t : TypeId) (ho : o.op = .call { callee := .builtin .append, args := #[s, y], argTypes := #[t, t] })
    (ht : P.underlying t = some (.slice ty)) {z : Value} (hinfo : (P.info? ty).map (fun i => (i.zero, i.size, i.bytes)) = some (some z, k, bytes)) (hz : z.cells.size = k)
    (v : Value) (xs : List α) (hsv : a.eval s = v) (hown : OwnE k enc ty base W v xs) {A : Option Addr} {m c : Nat} (hy : a.eval y = .slice A m c) (hs : SlE k enc W A m ys)
    (hbytes : (xs.length + m) * bytes ≤ 140737488355328) (h63 : xs.length + m ≤ maxLen) (hbase : base ≤ W.heap.size)
    (h : ∀ v' w', OwnE k enc ty base w' v' (xs ++ ys) → W.grownBy w' v.ownBlock → (v'.ownBlock = v.ownBlock ∨ v'.ownBlock = some W.heap.size) → wpList P ops Q rest (a.put o.dst v') w') :
    wpList P ops Q (o :: rest) a W := by
  obtain ⟨v', w', hr, h2, h3, h5⟩ := run_cat_at (P := P) (tr := o.type) hk h1 hk0 ht hinfo hz hown hs hbytes h63 hbase (c := c)
  exact Lib.wpList_append_run W hgd s y t t ho _ _ hsv hy v' w' hr (h v' w' h2 h3 h5)
end
end Go.Proofs.YtgjllminidlolaaGreatDoor
