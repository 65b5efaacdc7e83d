/- Contracts: l92Bookings: a number of legs and bookings. -/
import Derived.Test.YtgjllminidlolaaGreatDoorDraw
import Derived.Test.YtgjllminidlolaaGreatDoorPushAt
import Derived.Test.YtgjllminidlolaaGreatDoorSWalkK
import Derived.Deep.RegionHeld3
set_option linter.unusedVariables false
namespace Go.Proofs.YtgjllminidlolaaGreatDoor
open Go.RowKit

theorem grown_alloc {w W : World} {row : Option Nat} (h : w.grownBy W row) (o : Obj) : w.grownBy (W.alloc o) row := grown_below h (below_alloc (Below.refl _ W) o)
theorem grown_undrew {w W : World} {row : Option Nat} (h : w.drew.grownBy W row) : w.grownBy W row := ⟨h.os, h.tape, h.output, h.size, h.block⟩
/-- A small literal slice that a call has laid, behind a pick. -/
theorem lit_at {w w' : World} {R ty : Nat} (xs : List Int) (cs : Array Value) (hcs : cs.toList = xs.flatMap encI) (hm : xs.length ≤ 8) (hg : (w.alloc (.cells cs ty)).grownBy w' (some R)) (hR : R < w.heap.size) {x : Nat} (hx : x < xs.length) :
    ∃ z, w'.cell? ⟨w.heap.size, x, none⟩ = some (.int .i64 z) ∧ z ∈ xs := by
  have h1 := own_new (enc := encI) (k := 1) w ty w.heap.size (Nat.le_refl _) encI_len xs cs hcs (by unfold maxLen; omega) rfl
  have h2 := OwnE.apart h1 hg (.inr fun e => by injection e with e; have e : w.heap.size = R := e; omega)
  exact ⟨xs[x], OwnE.cell1 h2 (List.getElem?_eq_getElem hx), List.getElem_mem hx⟩
theorem flatB_setA : ∀ (xs : List B3) (j : Nat) (p : B3) (x : Int), xs[j]? = some p → (xs.flatMap encB).set (j * 3) (.int .i64 x) = (xs.set j ⟨x, p.b, p.c⟩).flatMap encB
  | [], _, _, _, h => by simp at h
  | q :: xs, 0, p, x, h => by
    have e : q = p := by simpa using h
    subst e
    simp [encB]
  | q :: xs, j + 1, p, x, h => by
    have ih := flatB_setA xs j p x (by simpa using h)
    have e0 : (j + 1) * 3 = j * 3 + 1 + 1 + 1 := by omega
    simp only [List.flatMap_cons, List.set_cons_succ, ← ih, encB, List.cons_append, List.nil_append, e0]
theorem flatB_setB : ∀ (xs : List B3) (j : Nat) (p : B3) (x : Int), xs[j]? = some p → (xs.flatMap encB).set (j * 3 + 1) (.int .i64 x) = (xs.set j ⟨p.a, x, p.c⟩).flatMap encB
  | [], _, _, _, h => by simp at h
  | q :: xs, 0, p, x, h => by
    have e : q = p := by simpa using h
    subst e
    simp [encB]
  | q :: xs, j + 1, p, x, h => by
    have ih := flatB_setB xs j p x (by simpa using h)
    have e0 : (j + 1) * 3 + 1 = j * 3 + 1 + 1 + 1 + 1 := by omega
    simp only [List.flatMap_cons, List.set_cons_succ, ← ih, encB, List.cons_append, List.nil_append, e0]
/-- One cell of an own row of three-cell structs is written. -/
theorem ownB_one {w : World} {base ty g cap n : Nat} {xs ys : List B3} (h : OwnE 3 encB ty base w (.slice (some ⟨g, 0, none⟩) n cap) xs) (hn : xs.length = n) {j : Nat} (x : Int) (hy : (xs.flatMap encB).set j (.int .i64 x) = ys.flatMap encB) (hl : ys.length = xs.length) :
    OwnE 3 encB ty base (w.setCell ⟨g, j, none⟩ (.int .i64 x)) (.slice (some ⟨g, 0, none⟩) n cap) ys ∧ w.grownBy (w.setCell ⟨g, j, none⟩ (.int .i64 x)) (some g) := by
  subst hn
  have h1 := World.ownsRow.stored h j (.int .i64 x)
  refine ⟨?_, h1.2⟩
  unfold OwnE
  rw [hl, ← hy]
  exact h1.1

/-- A draw under way: the reader and a slice of its own. -/
def DGB (w : World) (R m : Nat) (v : Value) (xs : List B3) (W : World) : Prop :=
  R < w.heap.size ∧ RdAt W R m ∧ w.grownBy W (some R) ∧ OwnE 3 encB 34 w.heap.size W v xs
theorem DGB.own_ne {w W : World} {R m : Nat} {v : Value} {xs : List B3} (h : DGB w R m v xs W) : v.ownBlock = none ∨ v.ownBlock ≠ some R := by
  by_cases e : v.ownBlock = some R
  · have := (h.2.2.2.lt R e).1
    have := h.1
    omega
  · exact .inr e
theorem DGB.pick {w W W' : World} {R m m' : Nat} {v : Value} {xs : List B3} (h : DGB w R m v xs W) (hr : RdAt W' R m') (hg : W.grownBy W' (some R)) : DGB w R m' v xs W' :=
  ⟨h.1, hr, grown_trans h.2.2.1 hg, OwnE.apart h.2.2.2 hg h.own_ne⟩
theorem DGB.alloc {w W : World} {R m : Nat} {v : Value} {xs : List B3} (h : DGB w R m v xs W) (o : Obj) : DGB w R m v xs (W.alloc o) :=
  ⟨h.1, h.2.1.below (below_alloc (Below.refl _ W) o) (Nat.le_refl _), grown_alloc h.2.2.1 o, OwnE.alloc h.2.2.2 o⟩
theorem DGB.drew {w W : World} {R m : Nat} {v : Value} {xs : List B3} (h : DGB w R m v xs W) : DGB w R m v xs W.drew := ⟨h.1, h.2.1, ⟨h.2.2.1.os, h.2.2.1.tape, h.2.2.1.output, h.2.2.1.size, h.2.2.1.block⟩, h.2.2.2⟩
theorem DGB.size {w W : World} {R m : Nat} {v : Value} {xs : List B3} (h : DGB w R m v xs W) : w.heap.size ≤ W.heap.size := h.2.2.1.size
theorem DGB.to {w W W' : World} {R m : Nat} {v v' : Value} {xs ys : List B3} (h : DGB w R m v xs W) (hg : W.grownBy W' v.ownBlock) (ho : OwnE 3 encB 34 w.heap.size W' v' ys) : DGB w R m v' ys W' :=
  ⟨h.1, h.2.1.grown hg (fun j hj => by have := (h.2.2.2.lt j hj).1; have := h.1; omega), grown_own h.2.2.1 hg (fun j hj => (h.2.2.2.lt j hj).1), ho⟩
theorem DGB.below {w W W' : World} {R m : Nat} {v : Value} {xs : List B3} (h : DGB w R m v xs W) (hb : Below W.heap.size W W') : DGB w R m v xs W' :=
  ⟨h.1, h.2.1.below hb (Nat.le_refl _), grown_below h.2.2.1 hb, h.2.2.2.below hb (Nat.le_refl _)⟩
/-- Another slice of the draw's own takes the place of the one before. -/
theorem DGB.next {w W W' : World} {R m : Nat} {v v' : Value} {xs ys : List B3} (h : DGB w R m v xs W) (hb : Below W.heap.size W W') (ho : OwnE 3 encB 34 W.heap.size W' v' ys) : DGB w R m v' ys W' :=
  ⟨h.1, h.2.1.below hb (Nat.le_refl _), grown_below h.2.2.1 hb, ho.base_le h.size⟩
/-- How l92Bookings ends. -/
def DrawnK (w : World) (R m : Nat) (e : Ending) (w' : World) : Prop :=
  ∃ n v xs, e = .returned (.tuple #[.int .i64 n, v]) ∧ 1 ≤ n ∧ n ≤ 6 ∧ xs.length ≤ 12 ∧ DGB w R m v xs w'
theorem DrawnK.of {w W : World} {R m : Nat} {v : Value} {xs : List B3} {n : Int} (h : DGB w R m v xs W) (h1 : 1 ≤ n) (h2 : n ≤ 6) (hl : xs.length ≤ 12) {m' : Nat} (hm : m ≤ m') : DrawnK w R m' (.returned (.tuple #[.int .i64 n, v])) W :=
  ⟨n, v, xs, rfl, h1, h2, hl, h.1, h.2.1.mono hm, h.2.2⟩

set_option maxRecDepth 20000 in
set_option maxHeartbeats 6400000 in
theorem l92Bookings_any (R m : Nat) (w : World) (h : RdAt w R m) (hm : m ≤ 50000) :
    Calls Tryz.prog 42 #[.pointer (some ⟨R, 0, none⟩)] w (DrawnK w R (m + 40)) := by
  have hRw := h.lt
  have H := Lib.hid h
  clear h
  go_enter Tryz.func42, Tryz.ntmps42
  go_wp2_with fail
  refine (pick_any R m 6 w H.out (by omega) (by omega)).mono ?_
  rintro e w1 ⟨x1, rfl, a0, a1, -, hr, hg⟩
  have a1 := a1 (by omega)
  have hsz1 := hg.size
  have D1 : Hid (DGB w R (m + 1) (.slice (some ⟨w1.heap.size, 0, none⟩) 0 0) [] (w1.alloc (.cells #[] 34))) :=
    ⟨hRw, hr.below (below_alloc (Below.refl _ w1) _) (Nat.le_refl _), grown_alloc hg _, own_new (enc := encB) (k := 3) w1 34 w.heap.size hsz1 encB_len [] #[] rfl (by simp) rfl⟩
  clear hr hg H
  go_wp2_with fail
  refine (pick_any R (m + 1) 13 _ D1.out.2.1 (by omega) (by omega)).mono ?_
  rintro e w2 ⟨n, rfl, n0, n1, -, hr, hg⟩
  have n1 := n1 (by omega)
  obtain ⟨n, rfl⟩ : ∃ i : Nat, n = i := ⟨n.toNat, by omega⟩
  have D2 := Lib.hid (D1.out.pick hr hg)
  clear hr hg D1
  go_wp2_with fail
  go_loopw [7, 5, 8, 9, 10] (fun i s _ _ _ wr => ∃ (k : Nat) (xs : List B3), k ≤ n ∧ i = .int .i64 k ∧ xs.length ≤ k ∧ DGB w R (m + 2 + 3 * k) s xs wr) (fun i _ _ _ _ _ => n - (intOf i).toNat)
  case atStart => exact ⟨0, [], by omega, rfl, by simp, D2.out⟩
  case round =>
    obtain ⟨k, xs, hk, rfl, hl, hd⟩ := hrel
    have HD := Lib.hid hd
    clear hd D2
    by_cases hlt : k < n
    · go_wp2_with fail
      refine (pick_any R (m + 2 + 3 * k) (1 + x1) wr HD.out.2.1 (by omega) (by omega)).mono ?_
      rintro e w3 ⟨f, rfl, b0, b1, -, hr, hg⟩
      have b1 := b1 (by omega)
      have D3 := Lib.hid (HD.out.pick hr hg)
      clear hr hg HD
      go_wp2_with fail
      refine (pick_any R (m + 2 + 3 * k + 1) (1 + x1 - f) w3 D3.out.2.1 (by omega) (by omega)).mono ?_
      rintro e w4 ⟨y, rfl, c0, c1, -, hr, hg⟩
      have c1 := c1 (by omega)
      have D4 := Lib.hid (D3.out.pick hr hg)
      clear hr hg D3
      go_wp2_with fail
      refine (pick_any R (m + 2 + 3 * k + 2) 5 w4 D4.out.2.1 (by omega) (by omega)).mono ?_
      rintro e w5 ⟨z, rfl, d0, d1, -, hr, hg⟩
      have d1 := d1 (by omega)
      have D5 := Lib.hid (D4.out.pick hr hg)
      clear hr hg D4
      obtain ⟨zb, hzb⟩ : ∃ zb : Bool, zb = decide (1 < z) := ⟨_, rfl⟩
      have HZB := Lib.hid hzb.symm
      clear hzb
      obtain ⟨A, c, rfl, -, hlc⟩ := D5.out.2.2.2.slc encB_len rfl
      by_cases hj : BJoinOk (1 + x1) xs [⟨f, f + 1 + y, zb⟩]
      · have HJ := Lib.hid hj
        clear hj
        go_wp2_with fail
        rw [HZB.out]
        refine (specSeatsBook_any A (1 + x1) xs.length c xs f (f + 1 + y) zb _ true w5 (sl_of_own_at encB_len D5.out.2.2.2 rfl) (by omega) (.inl ⟨rfl, HJ.out, rfl⟩)).mono ?_
        rintro e w6 ⟨v6, rfl, hown6, hb6⟩
        have D6 := Lib.hid (D5.out.next hb6 hown6)
        clear hown6 hb6 D5
        go_wp2_with fail
        go_roundw
        case rel => exact ⟨k + 1, xs ++ [⟨f, f + 1 + y, zb⟩], by omega, by go_num, by simp; omega, by have := D6.out; rw [show m + 2 + 3 * k + 2 + 1 = m + 2 + 3 * (k + 1) by omega] at this; exact this⟩
        case measure => simp [intOf]; omega
      · have HJ := Lib.hid hj
        clear hj
        go_wp2_with fail
        rw [HZB.out]
        refine (specSeatsBook_any A (1 + x1) xs.length c xs f (f + 1 + y) zb _ false w5 (sl_of_own_at encB_len D5.out.2.2.2 rfl) (by omega) (.inr ⟨rfl, HJ.out, rfl⟩)).mono ?_
        rintro e w6 ⟨v6, rfl, hown6, hb6⟩
        have D6 := Lib.hid (D5.out.below hb6)
        clear hown6 hb6 D5
        go_wp2_with fail
        go_roundw
        case rel => exact ⟨k + 1, xs, by omega, by go_num, by omega, by have := D6.out; rw [show m + 2 + 3 * k + 2 + 1 = m + 2 + 3 * (k + 1) by omega] at this; exact this⟩
        case measure => simp [intOf]; omega
    · have hkn : k = n := by omega
      subst hkn
      clear hlt hk
      obtain ⟨A, c, rfl, -, hkc⟩ := HD.out.2.2.2.slc encB_len rfl
      generalize hlen : xs.length = len at *
      have HL := Lib.hid hlen
      clear hlen
      by_cases hn0 : len = 0
      · subst hn0
        go_wp2_with fail
        go_ret2
        exact DrawnK.of HD.out (by omega) (by omega) (by rw [HL.out]; omega) (by omega)
      · have hn1 : 0 < len := by omega
        obtain ⟨g, rfl, -, hg0, hg1, hfz⟩ := HD.out.2.2.2.form (by rw [HL.out]; omega)
        go_wp2_with fail
        refine (pick_any R (m + 2 + 3 * k) 40 wr HD.out.2.1 (by omega) (by omega)).mono ?_
        rintro e w3 ⟨x2, rfl, b0, b1, -, hr, hg⟩
        have D3 := Lib.hid (HD.out.pick hr hg)
        clear hr hg HD b1 hfz hg1
        by_cases e1 : x2 = 0
        · have hx0 : xs[0]? = some (xs[0]'(by rw [HL.out]; omega)) := List.getElem?_eq_getElem (by rw [HL.out]; omega)
          generalize (xs[0]'(by rw [HL.out]; omega)) = p0 at *
          have HX0 := Lib.hid hx0
          have hfz := OwnE.frozen D3.out.2.2.2
          obtain ⟨q0, -, -⟩ := OwnE.cellB D3.out.2.2.2 (j := 0) (x := p0.a) (y := p0.b) (z := p0.c) hx0
          have hy : ∀ W', DGB w R (m + 2 + 3 * k + 2) (.slice (some ⟨g, 0, none⟩) len c) xs W' → W'.cell? ⟨g, 0, none⟩ = some (.int .i64 p0.a) ∧ W'.cell? ⟨g, 1, none⟩ = some (.int .i64 p0.b) ∧ ∀ j, W'.frozen? ⟨g, j, none⟩ = false := fun W' h => by
            have hfz := OwnE.frozen h.2.2.2
            obtain ⟨q0, q1, -⟩ := OwnE.cellB h.2.2.2 (j := 0) (x := p0.a) (y := p0.b) (z := p0.c) HX0.out
            exact ⟨by simpa using q0, by simpa using q1, hfz⟩
          have HY := Lib.hid hy
          clear hy hx0
          simp only [Nat.zero_mul] at q0
          go_wp2_with fail
          have hLb : ∀ (W W' : World) (x : Int), R < W.heap.size → (W.alloc (.cells #[.int .i64 p0.a, .int .i64 (1 + x1 + 1)] 3)).grownBy W' (some R) → 0 ≤ x → x < 2 → ∃ (n : Nat) (z : Int), x = n ∧ n < 2 ∧ W'.cell? ⟨W.heap.size, n, none⟩ = some (.int .i64 z) ∧ z ∈ ([p0.a, 1 + x1 + 1] : List Int) := fun W W' x h1 h2 h3 h4 => by
            obtain ⟨x, rfl⟩ : ∃ i : Nat, x = i := ⟨x.toNat, by omega⟩
            obtain ⟨z, hz, hzm⟩ := lit_at [p0.a, 1 + x1 + 1] _ rfl (by simp) h2 h1 (x := x) (by simp; omega)
            exact ⟨x, z, rfl, by omega, hz, hzm⟩
          have HLb := Lib.hid hLb
          have hR3 := Nat.lt_of_lt_of_le hRw D3.out.size
          have D3d := Lib.hid D3.out.drew
          have xw : IntKind.i64.wrap (1 + x1 + 1) = 1 + x1 + 1 := IntWalk.i64_in _ (by omega)
          clear hLb
          go_region_with (first
            | (go_at_call 32; refine (pick_any R (m + 2 + 3 * k + 1) 2 _ (D3.out.alloc _).drew.2.1 (by omega) (by omega)).mono ?_; rintro e w4 ⟨x3, rfl, c0, c1, -, hr, hg⟩; obtain ⟨x3, z, rfl, hx3, hz, hzm⟩ := HLb.out _ _ x3 hR3 (grown_undrew hg) c0 (c1 (by omega)); have D4 := Lib.hid ((D3.out.alloc _).drew.pick hr hg); obtain ⟨q3, q4, hfz4⟩ := HY.out _ D4.out; clear c0 c1 hr hg hzm)
            | (go_at_call 32; refine (pick_any R (m + 2 + 3 * k + 1) 2 _ D3d.out.2.1 (by omega) (by omega)).mono ?_; rintro e w4 ⟨x3, rfl, c0, c1, -, hr, hg⟩; have D4' := D3d.out.pick hr hg; obtain ⟨x3, z, rfl, hx3, hz, hzm⟩ := HLb.out w4 _ x3 (Nat.lt_of_lt_of_le hRw D4'.size) ⟨rfl, rfl, rfl, Nat.le_refl _, fun _ _ _ => rfl⟩ c0 (c1 (by omega)); have D4 := Lib.hid (D4'.alloc (.cells #[.int .i64 p0.a, .int .i64 (1 + x1 + 1)] 3)); obtain ⟨q3, q4, hfz4⟩ := HY.out _ D4.out; obtain ⟨q5, q6, hfz5⟩ := HY.out _ D4'; clear c0 c1 hr hg hzm D4')
            | fail)
          all_goals
            have ht := ownB_one D4.out.2.2.2 HL.out (j := 1) z (flatB_setB xs 0 p0 z HX0.out) (by simp)
            have D5 := Lib.hid (D4.out.to ht.2 ht.1)
            clear D4 ht
            go_wp2_with fail
            go_ret2
            exact DrawnK.of D5.out (by omega) (by omega) (by simp; rw [HL.out]; omega) (by omega)
        by_cases e0 : x2 = 1
        · have hx0 : xs[0]? = some (xs[0]'(by rw [HL.out]; omega)) := List.getElem?_eq_getElem (by rw [HL.out]; omega)
          generalize (xs[0]'(by rw [HL.out]; omega)) = p0 at *
          have ht := ownB_one D3.out.2.2.2 HL.out (j := 0) (-1) (flatB_setA xs 0 p0 (-1) hx0) (by simp)
          have D5 := Lib.hid (D3.out.to ht.2 ht.1)
          have hfz := OwnE.frozen D3.out.2.2.2
          obtain ⟨q0, q1, q2⟩ := OwnE.cellB D3.out.2.2.2 (j := 0) (x := p0.a) (y := p0.b) (z := p0.c) hx0
          simp only [Nat.zero_mul, Nat.zero_add] at q0 q1 q2
          have HX0 := Lib.hid hx0
          clear D3 ht hx0
          go_wp2_with fail
          go_ret2
          exact DrawnK.of D5.out (by omega) (by omega) (by simp; rw [HL.out]; omega) (by omega)
        · go_wp2_with fail
          go_ret2
          exact DrawnK.of D3.out (by omega) (by omega) (by rw [HL.out]; omega) (by omega)
end Go.Proofs.YtgjllminidlolaaGreatDoor
