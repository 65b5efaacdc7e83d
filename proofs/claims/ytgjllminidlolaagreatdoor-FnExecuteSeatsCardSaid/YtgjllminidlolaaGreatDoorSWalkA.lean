/- Contracts: what checks bookings, and sets of legs. -/
import Derived.Test.YtgjllminidlolaaGreatDoorSBase
import Derived.Deep.QuietTactic
import Derived.BigQuiet
set_option linter.unusedVariables false
namespace Go.Proofs.YtgjllminidlolaaGreatDoor
open Go.RowKit

set_option maxRecDepth 20000 in
set_option maxHeartbeats 400000 in
theorem l6In_any (n lo hi : Int) (w : World) :
    Calls Tryz.prog 62 #[.int .i64 n, .int .i64 lo, .int .i64 hi] w (SameB (lo ≤ n ∧ n ≤ hi) w) := by
  go_enter Tryz.func62, Tryz.ntmps62
  go_wp2
  all_goals
    go_ret
    exact ⟨_, rfl, by simp <;> omega, rfl⟩

set_option maxRecDepth 20000 in
set_option maxHeartbeats 400000 in
theorem stopsOrdered_any (n f t : Int) (w : World) :
    Calls Tryz.prog 79 #[.int .i64 n, .int .i64 f, .int .i64 t] w (SameB (0 ≤ f ∧ f < t ∧ t ≤ n) w) := by
  go_enter Tryz.func79, Tryz.ntmps79
  go_wp2
  all_goals
    go_ret
    exact ⟨_, rfl, by simp <;> omega, rfl⟩

set_option maxRecDepth 20000 in
set_option maxHeartbeats 400000 in
theorem legsValid_any (n : Int) (w : World) :
    Calls Tryz.prog 78 #[.int .i64 n] w (SameB (1 ≤ n ∧ n ≤ 7) w) := by
  go_enter Tryz.func78, Tryz.ntmps78
  go_wp2
  all_goals
    go_ret
    exact ⟨_, rfl, by simp <;> omega, rfl⟩

set_option maxRecDepth 20000 in
set_option maxHeartbeats 1600000 in
theorem l4Taken_any (A : Option Addr) (n cap : Nat) (leg : Int) (k : Bool) (xs : List B3) (w : World) (h : SlE 3 encB w A n xs) (hn : n ≤ 16777216) :
    Calls Tryz.prog 85 #[.slice A n cap, .int .i64 leg, .bool k] w (Same (.int .i64 (taken xs leg k)) w) := by
  have H := Lib.hid h
  clear h
  go_enter Tryz.func85, Tryz.ntmps85
  go_wp2_with fail
  go_loop [7, 8] (fun s i => ∃ j : Nat, j ≤ n ∧ i = .int .i64 j ∧ s = .int .i64 (taken (xs.take j) leg k)) (fun _ i => n - (intOf i).toNat)
  case atStart => exact ⟨0, by omega, rfl, rfl⟩
  case round =>
    obtain ⟨j, hj, rfl, rfl⟩ := hrel
    have hb := taken_bd (xs.take j) leg k
    have hl : (xs.take j).length ≤ j := List.length_take_le _ _
    obtain ⟨b0, b1⟩ := hb
    by_cases hlt : j < n
    · obtain ⟨b, off, x, y, z, rfl, hbl, hx, hd, g0, g1, g2⟩ := atB H.out (Below.refl _ w) hlt
      have HX := Lib.hid (taken_next leg k hx)
      clear hd hx
      generalize taken (xs.take j) leg k = t at *
      by_cases hk : z = k
      · subst hk
        by_cases h1 : x ≤ leg
        · by_cases h2 : leg < y
          · go_wp2_with fail
            go_round
            case rel => exact ⟨j + 1, by omega, by go_num, by rw [HX.out]; dsimp only; rw [if_pos ⟨rfl, h1, h2⟩]⟩
            case measure => simp [intOf]; omega
          · have d2 : decide (leg < y) = false := by simpa using h2
            go_wp2_with fail
            go_round
            case rel => exact ⟨j + 1, by omega, by go_num, by rw [HX.out]; dsimp only; rw [if_neg (fun h => h2 h.2.2), Int.add_zero]⟩
            case measure => simp [intOf]; omega
        · have d1 : decide (x ≤ leg) = false := by simpa using h1
          go_wp2_with fail
          go_round
          case rel => exact ⟨j + 1, by omega, by go_num, by rw [HX.out]; dsimp only; rw [if_neg (fun h => h1 h.2.1), Int.add_zero]⟩
          case measure => simp [intOf]; omega
      · have d0 : (z == k) = false := by simpa using hk
        go_wp2_with fail
        go_round
        case rel => exact ⟨j + 1, by omega, by go_num, by rw [HX.out]; dsimp only; rw [if_neg (fun h => hk h.1), Int.add_zero]⟩
        case measure => simp [intOf]; omega
    · have hx : xs.take j = xs := List.take_of_length_le (by have := H.out.len; omega)
      rw [hx]
      clear hx
      go_wp2_with fail
      go_ret
      exact ⟨rfl, rfl⟩

set_option maxRecDepth 20000 in
set_option maxHeartbeats 3200000 in
theorem legsBetween_any (f t : Nat) (w : World) (h : f ≤ t) (ht : t ≤ 7) :
    Calls Tryz.prog 81 #[.int .i64 f, .int .i64 t] w (Same (.int .u64 (legs f t)) w) := by
  rcases (by omega : t = 0 ∨ t = 1 ∨ t = 2 ∨ t = 3 ∨ t = 4 ∨ t = 5 ∨ t = 6 ∨ t = 7) with rfl | rfl | rfl | rfl | rfl | rfl | rfl | rfl
  all_goals
    rcases (by omega : f = 0 ∨ f = 1 ∨ f = 2 ∨ f = 3 ∨ f = 4 ∨ f = 5 ∨ f = 6 ∨ f = 7) with rfl | rfl | rfl | rfl | rfl | rfl | rfl | rfl
    all_goals first
      | (exfalso; omega)
      | (go_enter Tryz.func81, Tryz.ntmps81
         go_wp2
         go_ret
         exact ⟨rfl, rfl⟩)
theorem and_nat (a b : Nat) (ha : a < 1024) (hb : b < 1024) : bits .and .u64 (a : Int) (b : Int) = ((a &&& b : Nat) : Int) := by
  have e : bits .and .u64 (a : Int) (b : Int) = IntKind.u64.wrap (((BitVec.ofInt 64 (a : Int)) &&& (BitVec.ofInt 64 (b : Int))).toNat : Int) := rfl
  rw [e]
  have e2 : ((BitVec.ofInt 64 (a : Int)) &&& (BitVec.ofInt 64 (b : Int))).toNat = a &&& b := by
    rw [BitVec.toNat_and, BitVec.ofInt_natCast, BitVec.ofInt_natCast, BitVec.toNat_ofNat, BitVec.toNat_ofNat, Nat.mod_eq_of_lt (by omega), Nat.mod_eq_of_lt (by omega)]
  rw [e2]
  have hle : a &&& b ≤ a := Nat.and_le_left
  have hw : ∀ n : Nat, n < 1024 → IntKind.u64.wrap (n : Int) = n := by
    intro n hn
    have e : IntKind.u64.wrap (n : Int) = (n : Int) % 18446744073709551616 := by simp [IntKind.wrap, IntKind.bits, IntKind.signed]
    rw [e]
    omega
  exact hw _ (by omega)
set_option maxRecDepth 20000 in
set_option maxHeartbeats 800000 in
theorem meets_any (a b : Nat) (w : World) (ha : a < 1024) (hb : b < 1024) :
    Calls Tryz.prog 83 #[.int .u64 a, .int .u64 b] w (SameB (a &&& b ≠ 0) w) := by
  have e := and_nat a b ha hb
  go_enter Tryz.func83, Tryz.ntmps83
  go_wp2
  go_ret
  exact ⟨_, rfl, by simp, rfl⟩
theorem legs_lt (f t : Nat) (ht : t ≤ 7) : legs f t < 1024 := by
  unfold legs
  have h1 : 2 ^ t ≤ 2 ^ 7 := Nat.pow_le_pow_right (by omega) ht
  exact Nat.lt_of_le_of_lt (Nat.sub_le _ _) (Nat.lt_of_le_of_lt h1 (by decide))
theorem legs_has (f t leg : Nat) (hf : f ≤ t) (ht : t ≤ 7) (hl : leg < 7) : (legs f t &&& legs leg (leg + 1) ≠ 0) ↔ f ≤ leg ∧ leg < t := by
  have h := legs_meet ⟨f, by omega⟩ ⟨t, by omega⟩ ⟨leg, by omega⟩ ⟨leg + 1, by omega⟩ hf (by simp)
  simp only at h
  rw [h]
  omega
set_option maxRecDepth 20000 in
set_option maxHeartbeats 800000 in
theorem has_any (f t leg : Nat) (w : World) (hf : f ≤ t) (ht : t ≤ 7) (hl : leg < 7) :
    Calls Tryz.prog 116 #[.int .u64 (legs f t), .int .i64 leg] w (SameB (f ≤ leg ∧ leg < t) w) := by
  have HL := Lib.hid (legs_has f t leg hf ht hl)
  have HA := Lib.hid (legs_lt f t ht)
  have HB := Lib.hid (legs_lt leg (leg + 1) (by omega))
  have e1 : IntKind.i64.wrap ((leg : Int) + 1) = ((leg + 1 : Nat) : Int) := by rw [IntWalk.i64_in _ (by omega)]; rfl
  have e2 : ((leg + 1 : Nat) : Int) = (leg : Int) + 1 := rfl
  have HC := Lib.hid (legsBetween_any leg (leg + 1) w (by omega) (by omega))
  rw [e2] at HC
  clear e1 e2
  go_enter Tryz.func116, Tryz.ntmps116
  go_wp2_with fail
  refine HC.out.mono ?_
  rintro e w2 ⟨rfl, rfl⟩
  go_wp2_with fail
  refine (meets_any (legs f t) (legs leg (leg + 1)) w HA.out HB.out).mono ?_
  intro e w2 hp
  by_cases h : f ≤ leg ∧ leg < t
  · obtain ⟨rfl, rfl⟩ := hp.yes (HL.out.2 h)
    have HH := Lib.hid h
    clear h hp
    go_wp2_with fail
    go_ret
    exact ⟨true, rfl, by simp [HH.out], rfl⟩
  · obtain ⟨rfl, rfl⟩ := hp.no (fun hh => h (HL.out.1 hh))
    have HH := Lib.hid h
    clear h hp
    go_wp2_with fail
    go_ret
    exact ⟨false, rfl, by simpa using HH.out, rfl⟩

/-- The ticket of a booking. -/
def tick (f t : Nat) (k : Bool) : Value := .iface (if k = true then 137 else 138) (.agg #[.int .u64 (legs f t)])
set_option maxRecDepth 20000 in
set_option maxHeartbeats 800000 in
theorem ticketOf_any (f t : Nat) (k : Bool) (w : World) (hf : f ≤ t) (ht : t ≤ 7) :
    Calls Tryz.prog 44 #[.agg #[.int .i64 f, .int .i64 t, .bool k]] w (Only (tick f t k) w) := by
  have HB := Lib.hid (below_alloc (Below.refl w.heap.size w) (.cells #[.int .i64 (f : Int), .int .i64 (t : Int), .bool k] 34))
  have HC := Lib.hid (fun W => legsBetween_any f t W hf ht)
  cases k
  all_goals
    go_enter Tryz.func44, Tryz.ntmps44
    go_wp2_with fail
    refine (HC.out _).mono ?_
    rintro e w2 ⟨rfl, rfl⟩
    go_wp2_with fail
    go_ret
    exact ⟨rfl, HB.out⟩
set_option maxRecDepth 20000 in
set_option maxHeartbeats 800000 in
theorem inLegs_any (s : Int) (w : World) : Calls Tryz.prog 246 #[.agg #[.int .u64 s]] w (Only (.int .u64 s) w) := by
  have HB := Lib.hid (below_alloc (Below.refl w.heap.size w) (.cells #[.int .u64 s] 137))
  go_enter Tryz.func246, Tryz.ntmps246
  go_wp2_with fail
  go_ret
  exact ⟨rfl, HB.out⟩
set_option maxRecDepth 20000 in
set_option maxHeartbeats 800000 in
theorem outLegs_any (s : Int) (w : World) : Calls Tryz.prog 247 #[.agg #[.int .u64 s]] w (Only (.int .u64 s) w) := by
  have HB := Lib.hid (below_alloc (Below.refl w.heap.size w) (.cells #[.int .u64 s] 138))
  go_enter Tryz.func247, Tryz.ntmps247
  go_wp2_with fail
  go_ret
  exact ⟨rfl, HB.out⟩
end Go.Proofs.YtgjllminidlolaaGreatDoor
