/- Contracts: SeatingValid of the program. -/
import Derived.Test.YtkknfhabfmpogaaSWalkE
set_option linter.unusedVariables false
namespace Go.Proofs.Ytkknfhabfmpogaa
open Go.RowKit

theorem free_any (g f t : Nat) (k : Bool) (o : Int) (S : Bool → Nat → Nat) (w : World) (h : CoachAt w g S) (hf : f ≤ t) (ht : t ≤ 7) :
    Calls Try.prog 45 #[.pointer (some ⟨g, 0, none⟩), tick f t k, .int .i64 o] w (OnlyB ((0 ≤ o ∧ o < capOf k) ∧ S k o.toNat &&& legs f t = 0) w) := by
  cases k
  · exact freeOut_any g f t o S w h hf ht
  · exact freeIn_any g f t o S w h hf ht
theorem take_any (g f t s : Nat) (k : Bool) (S : Bool → Nat → Nat) (w : World) (h : CoachAt w g S) (hf : f ≤ t) (ht : t ≤ 7) (hs : s < capOf k) :
    Calls Try.prog 46 #[.pointer (some ⟨g, 0, none⟩), tick f t k, .int .i64 s] w (Took w g (takeS S k s (legs f t))) := by
  cases k
  · exact takeOut_any g f t s S w h hf ht hs
  · exact takeIn_any g f t s S w h hf ht hs
theorem seatsOf_any (f t : Nat) (k : Bool) (w : World) : Calls Try.prog 44 #[tick f t k] w (Same (.int .i64 (capOf k)) w) := by
  cases k
  · exact seatsOfOut_any _ w
  · exact seatsOfIn_any _ w
/-- The coach where the bookings ahead of j have their seats. -/
def occS (xs : List B3) (ys : List Int) : Bool → Nat → Nat := fun k s => occ xs ys k s
theorem occS_next {xs : List B3} {ys : List Int} {j : Nat} {p : B3} {o : Nat} (hx : xs[j]? = some p) (ho : ys[j]? = some (o : Int)) :
    takeS (occS (xs.take j) (ys.take j)) p.c o (legs p.a.toNat p.b.toNat) = occS (xs.take (j + 1)) (ys.take (j + 1)) := by
  funext k s
  simp only [takeS, occS, occ_next hx ho]
  by_cases e : k = p.c ∧ s = o
  · obtain ⟨rfl, rfl⟩ := e
    rw [if_pos ⟨rfl, rfl⟩, if_pos ⟨rfl, rfl⟩]
  · rw [if_neg e, if_neg (fun h => e ⟨h.1.symm, by omega⟩), Nat.or_zero]
theorem seat_free {xs : List B3} {ys : List Int} {j : Nat} {p : B3} {o : Int} (hall : ∀ q ∈ xs, OkB 7 q) (hp : OkB 7 p) (h0 : 0 ≤ o) : (occS (xs.take j) (ys.take j) p.c o.toNat &&& legs p.a.toNat p.b.toNat = 0) ↔ blk (xs.take j) (ys.take j) p o = false := by
  have h := occ_blk (xs.take j) (ys.take j) p o (fun q hq => hall q (List.mem_of_mem_take hq)) hp
  unfold occS
  rw [Int.toNat_of_nonneg h0]
  cases hb : blk (xs.take j) (ys.take j) p o with
  | false => rw [hb] at h; simp at h; simp [h]
  | true => rw [hb] at h; simp at h; simp [h]
theorem seat_not_free {xs : List B3} {ys : List Int} {j : Nat} {p : B3} {o : Int} (hx : xs[j]? = some p) (ho : ys[j]? = some o) (hall : ∀ q ∈ xs, OkB 7 q)
    (h : ¬ ((0 ≤ o ∧ o < capOf p.c) ∧ occS (xs.take j) (ys.take j) p.c o.toNat &&& legs p.a.toNat p.b.toNat = 0)) : ¬ SeatOk xs ys := by
  by_cases hr : 0 ≤ o ∧ o < capOf p.c
  · refine seat_not_blk hx ho ?_
    cases hb : blk (xs.take j) (ys.take j) p o with
    | true => rfl
    | false => exact absurd ⟨hr, (seat_free hall (hall p (mem_at hx)) hr.1).2 hb⟩ h
  · exact seat_not_range hx ho hr
theorem coach_zero (w : World) (T : TypeId) : CoachAt (w.alloc (.cells #[.int .u64 0, .int .u64 0, .int .u64 0, .int .u64 0, .int .u64 0, .int .u64 0, .int .u64 0, .int .u64 0, .int .u64 0, .int .u64 0] T)) w.heap.size (occS [] []) := by
  have hz := heap_alloc_new w (.cells #[.int .u64 0, .int .u64 0, .int .u64 0, .int .u64 0, .int .u64 0, .int .u64 0, .int .u64 0, .int .u64 0, .int .u64 0, .int .u64 0] T)
  refine ⟨by simp, fun j => frozen_of_row _ _ j _ _ hz, fun k s hs => ⟨?_, by simp [occS, occ]⟩⟩
  rw [cell_of_row _ _ _ _ _ _ hz]
  cases k
  · simp only [capOf, Bool.false_eq_true, if_false] at hs
    rcases (by omega : s = 0 ∨ s = 1 ∨ s = 2 ∨ s = 3 ∨ s = 4 ∨ s = 5) with rfl | rfl | rfl | rfl | rfl | rfl <;> rfl
  · simp only [capOf, if_true] at hs
    rcases (by omega : s = 0 ∨ s = 1 ∨ s = 2 ∨ s = 3) with rfl | rfl | rfl | rfl <;> rfl
theorem below_own {w W W' : World} {g : Nat} (hb : Below w.heap.size w W) (hg : W.grownBy W' (some g)) (h : w.heap.size ≤ g) : Below w.heap.size w W' :=
  hb.grown hg hb.size (fun j hj => by injection hj with hj; omega)

set_option maxRecDepth 20000 in
set_option maxHeartbeats 3200000 in
theorem implSeatingValid_any (A B : Option Addr) (n : Int) (len cap len2 cap2 : Nat) (xs : List B3) (ys : List Int) (w : World) (h : SlE 3 encB w A len xs) (h2 : SlE 1 encI w B len2 ys) (hn : len ≤ 16777216) :
    Calls Try.prog 17 #[.int .i64 n, .slice A len cap, .slice B len2 cap2] w (OnlyB (BookOk n xs ∧ SeatOk xs ys) w) := by
  have H := Lib.hid h
  have H2 := Lib.hid h2
  have HL := Lib.hid h.len
  have HL2 := Lib.hid h2.len
  clear h h2
  by_cases hok : BookOk n xs
  rotate_left
  · have HN := Lib.hid hok
    clear hok
    go_enter Try.func17, Try.ntmps17
    go_wp2_with fail
    refine (implBookingsValid_any A n len cap xs w H.out hn).mono ?_
    intro e w2 hp
    obtain ⟨rfl, hb⟩ := hp.no HN.out
    have HB := Lib.hid hb
    clear hp hb
    go_wp2_with fail
    go_ret
    exact onlyB_false (fun hh => HN.out hh.1) HB.out
  have HOK := Lib.hid hok
  have hn1 := hok.1
  have hn7 := hok.2.1
  have hm : len ≤ 16 := by have := hok.2.2.1; rw [HL.out] at this; exact this
  have HW := Lib.hid (okB_w hn7 hok.2.2.2.1)
  clear hok
  by_cases hll : len2 = len
  rotate_left
  · have HN := Lib.hid (show ¬ SeatOk xs ys from fun hs => hll (by rw [← HL.out, ← HL2.out]; exact hs.1))
    have d0 : ((len2 : Int) == (len : Int)) = false := by simp; omega
    have d1 : ((len2 : Int) != (len : Int)) = true := by simp [bne, d0]
    clear hll
    go_enter Try.func17, Try.ntmps17
    go_wp2_with fail
    refine (implBookingsValid_any A n len cap xs w H.out hn).mono ?_
    intro e w2 hp
    obtain ⟨rfl, hb⟩ := hp.yes HOK.out
    have HB := Lib.hid hb
    clear hp hb
    go_wp2_with fail
    go_ret
    exact onlyB_false (fun hh => HN.out hh.2) HB.out
  subst hll
  have d0 : ((len2 : Int) == (len2 : Int)) = true := by simp
  have d1 : ((len2 : Int) != (len2 : Int)) = false := by simp
  go_enter Try.func17, Try.ntmps17
  go_wp2_with fail
  refine (implBookingsValid_any A n len2 cap xs w H.out hn).mono ?_
  intro e w2 hp
  obtain ⟨rfl, hb⟩ := hp.yes HOK.out
  have hg0 := hb.size
  have HB := Lib.hid hb
  have HC := Lib.hid (coach_zero w2 68)
  clear hp hb d0 d1
  go_wp2_with fail
  obtain ⟨W0, rfl⟩ : ∃ W0, W0 = w2 := ⟨_, rfl⟩
  go_loopw [26, 8, 9, 10] (fun i _ _ _ wr => ∃ j : Nat, j ≤ len2 ∧ i = .int .i64 j ∧ SeatOk (xs.take j) (ys.take j) ∧ CoachAt wr W0.heap.size (occS (xs.take j) (ys.take j)) ∧ Below w.heap.size w wr) (fun i _ _ _ _ => len2 - (intOf i).toNat)
  case atStart => exact ⟨0, by omega, rfl, seat_nil, HC.out, below_alloc HB.out _⟩
  case round =>
    obtain ⟨j, hj, rfl, hs, hc, hb⟩ := hrel
    have HS := Lib.hid hs
    have HCR := Lib.hid hc
    have HR := Lib.hid hb
    clear hs hc hb HC
    by_cases hlt : j < len2
    · obtain ⟨b, off, x, y, z, rfl, hbl, hx, hd, g0, g1, g2⟩ := atB H.out HR.out hlt
      obtain ⟨b2, off2, o, rfl, hbl2, ho, hd2, k0⟩ := at1 H2.out HR.out hlt
      have hok := HW.out _ (mem_at hx)
      unfold OkB at hok
      dsimp only at hok
      obtain ⟨x, rfl⟩ : ∃ i : Nat, x = i := ⟨x.toNat, by omega⟩
      obtain ⟨y, rfl⟩ : ∃ i : Nat, y = i := ⟨y.toNat, by omega⟩
      have hxy : x ≤ y := by omega
      have hy7 : y ≤ 7 := by omega
      have HX := Lib.hid hx
      have HO := Lib.hid ho
      have HBX := Lib.hid (below_alloc HR.out (.cells #[.int .i64 (x : Int), .int .i64 (y : Int), .bool z] 28))
      have HCX := Lib.hid (HCR.out.below (below_alloc (Below.refl _ wr) (.cells #[.int .i64 (x : Int), .int .i64 (y : Int), .bool z] 28)))
      have HKX := Lib.hid (fun (W : World) (hW : Below w.heap.size w W) => (show b2 < W.heap.size ∧ W.cell? ⟨b2, off2 + j, none⟩ = some (.int .i64 o) by
        obtain ⟨b2', off2', o', hA, hbl2, ho', hd2, k0⟩ := at1 H2.out hW hlt
        injection hA with hA
        injection hA with e1 e2
        subst e1 e2
        rw [HO.out] at ho'
        injection ho' with ho'
        subst ho'
        exact ⟨hbl2, k0⟩))
      clear hx hd ho hd2 hok HCR
      go_wp2_with fail
      refine (ticketOf_any x y z _ hxy hy7).mono ?_
      rintro e w3 ⟨rfl, hb3⟩
      have HB3 := Lib.hid (below_trans HBX.out hb3)
      have HC3 := Lib.hid (HCX.out.below hb3)
      have k3 := (HKX.out _ HB3.out).2
      clear hb3 HCX k0
      go_wp2_with fail
      refine (free_any W0.heap.size x y z o _ w3 HC3.out hxy hy7).mono ?_
      intro e w4 hp
      by_cases hfr : (0 ≤ o ∧ o < capOf z) ∧ occS (xs.take j) (ys.take j) z o.toNat &&& legs x y = 0
      · obtain ⟨rfl, hb4⟩ := hp.yes hfr
        obtain ⟨o, rfl⟩ : ∃ i : Nat, o = i := ⟨o.toNat, by omega⟩
        have ho6 : o < capOf z := by omega
        have HB4 := Lib.hid (below_trans HB3.out hb4)
        have HC4 := Lib.hid (HC3.out.below hb4)
        have HSN := Lib.hid (seat_next HX.out HO.out HS.out hfr.1.1 hfr.1.2 ((seat_free HW.out (HW.out _ (mem_at HX.out)) hfr.1.1).1 hfr.2))
        have HON := Lib.hid (occS_next HX.out HO.out)
        have k4 := (HKX.out _ HB4.out).2
        clear hfr hp hb4 k3 HC3
        go_wp2_with fail
        refine (take_any W0.heap.size x y o z _ w4 HC4.out hxy hy7 ho6).mono ?_
        rintro e w5 ⟨rfl, hc5, hg5⟩
        have HB5 := Lib.hid (below_own HB4.out hg5 hg0)
        have HC5 := Lib.hid hc5
        clear hc5 hg5 HC4 k4
        go_wp2_with fail
        go_roundw
        case rel => exact ⟨j + 1, by omega, by go_num, HSN.out, by rw [← HON.out]; exact HC5.out, HB5.out⟩
        case measure => simp [intOf]; omega
      · obtain ⟨rfl, hb4⟩ := hp.no hfr
        have HN := Lib.hid (seat_not_free HX.out HO.out HW.out hfr)
        have HB4 := Lib.hid (below_trans HB3.out hb4)
        clear hfr hp hb4
        go_wp2_with fail
        go_ret
        exact onlyB_false (fun hh => HN.out hh.2) HB4.out
    · have e : j = len2 := by omega
      have HT : Hid (SeatOk xs ys) := by
        have := HS.out
        rw [e, List.take_of_length_le (by rw [HL.out]; omega), List.take_of_length_le (by rw [HL2.out]; omega)] at this
        exact this
      clear e
      go_wp2_with fail
      go_ret
      exact onlyB_true ⟨HOK.out, HT.out⟩ HR.out
end Go.Proofs.Ytkknfhabfmpogaa
