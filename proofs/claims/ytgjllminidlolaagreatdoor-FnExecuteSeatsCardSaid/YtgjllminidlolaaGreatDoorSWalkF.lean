/- Contracts: SeatingValid of the program. -/
import Derived.Test.YtgjllminidlolaaGreatDoorSWalkE
set_option linter.unusedVariables false
namespace Go.Proofs.YtgjllminidlolaaGreatDoor
open Go.RowKit

theorem free_any (g f t : Nat) (k : Bool) (o : Int) (S : Bool → Nat → Nat) (w : World) (h : CoachAt w g S) (hf : f ≤ t) (ht : t ≤ 7) :
    Calls Tryz.prog 46 #[.pointer (some ⟨g, 0, none⟩), tick f t k, .int .i64 o] w (OnlyB ((0 ≤ o ∧ o < capOf k) ∧ S k o.toNat &&& legs f t = 0) w) := by
  cases k
  · exact freeOut_any g f t o S w h hf ht
  · exact freeIn_any g f t o S w h hf ht
theorem take_any (g f t s : Nat) (k : Bool) (S : Bool → Nat → Nat) (w : World) (h : CoachAt w g S) (hf : f ≤ t) (ht : t ≤ 7) (hs : s < capOf k) :
    Calls Tryz.prog 47 #[.pointer (some ⟨g, 0, none⟩), tick f t k, .int .i64 s] w (Took w g (takeS S k s (legs f t))) := by
  cases k
  · exact takeOut_any g f t s S w h hf ht hs
  · exact takeIn_any g f t s S w h hf ht hs
theorem seatsOf_any (f t : Nat) (k : Bool) (w : World) : Calls Tryz.prog 45 #[tick f t k] w (Same (.int .i64 (capOf k)) w) := by
  cases k
  · exact seatsOfOut_any _ w
  · exact seatsOfIn_any _ w
/-- The coach where the bookings ahead of j have their seats. -/
def occS (xs : List B3) (ys : List Int) : Bool → Nat → Nat := fun k s => occ xs ys k s
theorem occS_next {xs : List B3} {ys : List Int} {j : Nat} {p : B3} {o : Nat} (hx : xs[j]? = some p) (ho : ys[j]? = some (o : Int)) :
    takeS (occS (xs.take j) (ys.take j)) p.c o (legs p.a.toNat p.b.toNat) = occS (xs.take (j + 1)) (ys.take (j + 1)) := by
  funext k s
  simp only [takeS, occS, occ_next hx ho]
  by_cases e : k = p.c ∧ s = o
  · obtain ⟨rfl, rfl⟩ := e
    rw [if_pos ⟨rfl, rfl⟩, if_pos ⟨rfl, rfl⟩]
  · rw [if_neg e, if_neg (fun h => e ⟨h.1.symm, by omega⟩), Nat.or_zero]
theorem seat_free {xs : List B3} {ys : List Int} {j : Nat} {p : B3} {o : Int} (hall : ∀ q ∈ xs, OkB 7 q) (hp : OkB 7 p) (h0 : 0 ≤ o) : (occS (xs.take j) (ys.take j) p.c o.toNat &&& legs p.a.toNat p.b.toNat = 0) ↔ blk (xs.take j) (ys.take j) p o = false := by
  have h := occ_blk (xs.take j) (ys.take j) p o (fun q hq => hall q (List.mem_of_mem_take hq)) hp
  unfold occS
  rw [Int.toNat_of_nonneg h0]
  cases hb : blk (xs.take j) (ys.take j) p o with
  | false => rw [hb] at h; simp at h; simp [h]
  | true => rw [hb] at h; simp at h; simp [h]
theorem seat_not_free {xs : List B3} {ys : List Int} {j : Nat} {p : B3} {o : Int} (hx : xs[j]? = some p) (ho : ys[j]? = some o) (hall : ∀ q ∈ xs, OkB 7 q)
    (h : ¬ ((0 ≤ o ∧ o < capOf p.c) ∧ occS (xs.take j) (ys.take j) p.c o.toNat &&& legs p.a.toNat p.b.toNat = 0)) : ¬ SeatOk xs ys := by
  by_cases hr : 0 ≤ o ∧ o < capOf p.c
  · refine seat_not_blk hx ho ?_
    cases hb : blk (xs.take j) (ys.take j) p o with
    | true => rfl
    | false => exact absurd ⟨hr, (seat_free hall (hall p (mem_at hx)) hr.1).2 hb⟩ h
  · exact seat_not_range hx ho hr
theorem coach_zero (w : World) (T : TypeId) : CoachAt (w.alloc (.cells #[.int .u64 0, .int .u64 0, .int .u64 0, .int .u64 0, .int .u64 0, .int .u64 0, .int .u64 0, .int .u64 0, .int .u64 0, .int .u64 0] T)) w.heap.size (occS [] []) := by
  have hz := heap_alloc_new w (.cells #[.int .u64 0, .int .u64 0, .int .u64 0, .int .u64 0, .int .u64 0, .int .u64 0, .int .u64 0, .int .u64 0, .int .u64 0, .int .u64 0] T)
  refine ⟨by simp, fun j => frozen_of_row _ _ j _ _ hz, fun k s hs => ⟨?_, by simp [occS, occ]⟩⟩
  rw [cell_of_row _ _ _ _ _ _ hz]
  cases k
  · simp only [capOf, Bool.false_eq_true, if_false] at hs
    rcases (by omega : s = 0 ∨ s = 1 ∨ s = 2 ∨ s = 3 ∨ s = 4 ∨ s = 5) with rfl | rfl | rfl | rfl | rfl | rfl <;> rfl
  · simp only [capOf, if_true] at hs
    rcases (by omega : s = 0 ∨ s = 1 ∨ s = 2 ∨ s = 3) with rfl | rfl | rfl | rfl <;> rfl
theorem below_own {w W W' : World} {g : Nat} (hb : Below w.heap.size w W) (hg : W.grownBy W' (some g)) (h : w.heap.size ≤ g) : Below w.heap.size w W' :=
  hb.grown hg hb.size (fun j hj => by injection hj with hj; omega)

end Go.Proofs.YtgjllminidlolaaGreatDoor
