/- Texts of mine in one: SWalkA SWalkB SWalkC SWalkD Cat ConB. -/
import Derived.Test.YtgjllminidlolaaGreatDoorVAB
import Derived.Deep.QuietTactic
import Derived.BigQuiet
import Derived.Handy
import Derived.Deep.Cut
import Derived.Deep.RegionHeld3
import Derived.Deep.DrawnRows
import Derived.Lib.AppendZeros
/- Contracts: what checks bookings, and sets of legs. -/
set_option linter.unusedVariables false
namespace Go.Proofs.YtgjllminidlolaaGreatDoor
open Go.RowKit

set_option maxRecDepth 20000 in
set_option maxHeartbeats 400000 in
theorem l6In_any (n lo hi : Int) (w : World) :
    Calls Tryz.prog 62 #[.int .i64 n, .int .i64 lo, .int .i64 hi] w (SameB (lo ≤ n ∧ n ≤ hi) w) := by
  go_enter Tryz.func62, Tryz.ntmps62
  go_wp2
  all_goals
    go_ret
    exact ⟨_, rfl, by simp <;> omega, rfl⟩

set_option maxRecDepth 20000 in
set_option maxHeartbeats 400000 in
theorem stopsOrdered_any (n f t : Int) (w : World) :
    Calls Tryz.prog 79 #[.int .i64 n, .int .i64 f, .int .i64 t] w (SameB (0 ≤ f ∧ f < t ∧ t ≤ n) w) := by
  go_enter Tryz.func79, Tryz.ntmps79
  go_wp2
  all_goals
    go_ret
    exact ⟨_, rfl, by simp <;> omega, rfl⟩

set_option maxRecDepth 20000 in
set_option maxHeartbeats 400000 in
theorem legsValid_any (n : Int) (w : World) :
    Calls Tryz.prog 78 #[.int .i64 n] w (SameB (1 ≤ n ∧ n ≤ 7) w) := by
  go_enter Tryz.func78, Tryz.ntmps78
  go_wp2
  all_goals
    go_ret
    exact ⟨_, rfl, by simp <;> omega, rfl⟩

set_option maxRecDepth 20000 in
set_option maxHeartbeats 1600000 in
theorem l4Taken_any (A : Option Addr) (n cap : Nat) (leg : Int) (k : Bool) (xs : List B3) (w : World) (h : SlE 3 encB w A n xs) (hn : n ≤ 16777216) :
    Calls Tryz.prog 85 #[.slice A n cap, .int .i64 leg, .bool k] w (Same (.int .i64 (taken xs leg k)) w) := by
  have H := Lib.hid h
  clear h
  go_enter Tryz.func85, Tryz.ntmps85
  go_wp2_with fail
  go_loop [7, 8] (fun s i => ∃ j : Nat, j ≤ n ∧ i = .int .i64 j ∧ s = .int .i64 (taken (xs.take j) leg k)) (fun _ i => n - (intOf i).toNat)
  case atStart => exact ⟨0, by omega, rfl, rfl⟩
  case round =>
    obtain ⟨j, hj, rfl, rfl⟩ := hrel
    have hb := taken_bd (xs.take j) leg k
    have hl : (xs.take j).length ≤ j := List.length_take_le _ _
    obtain ⟨b0, b1⟩ := hb
    by_cases hlt : j < n
    · obtain ⟨b, off, x, y, z, rfl, hbl, hx, hd, g0, g1, g2⟩ := atB H.out (Below.refl _ w) hlt
      have HX := Lib.hid (taken_next leg k hx)
      clear hd hx
      generalize taken (xs.take j) leg k = t at *
      by_cases hk : z = k
      · subst hk
        by_cases h1 : x ≤ leg
        · by_cases h2 : leg < y
          · go_wp2_with fail
            go_round
            case rel => exact ⟨j + 1, by omega, by go_num, by rw [HX.out]; dsimp only; rw [if_pos ⟨rfl, h1, h2⟩]⟩
            case measure => simp [intOf]; omega
          · have d2 : decide (leg < y) = false := by simpa using h2
            go_wp2_with fail
            go_round
            case rel => exact ⟨j + 1, by omega, by go_num, by rw [HX.out]; dsimp only; rw [if_neg (fun h => h2 h.2.2), Int.add_zero]⟩
            case measure => simp [intOf]; omega
        · have d1 : decide (x ≤ leg) = false := by simpa using h1
          go_wp2_with fail
          go_round
          case rel => exact ⟨j + 1, by omega, by go_num, by rw [HX.out]; dsimp only; rw [if_neg (fun h => h1 h.2.1), Int.add_zero]⟩
          case measure => simp [intOf]; omega
      · have d0 : (z == k) = false := by simpa using hk
        go_wp2_with fail
        go_round
        case rel => exact ⟨j + 1, by omega, by go_num, by rw [HX.out]; dsimp only; rw [if_neg (fun h => hk h.1), Int.add_zero]⟩
        case measure => simp [intOf]; omega
    · have hx : xs.take j = xs := List.take_of_length_le (by have := H.out.len; omega)
      rw [hx]
      clear hx
      go_wp2_with fail
      go_ret
      exact ⟨rfl, rfl⟩

set_option maxRecDepth 20000 in
set_option maxHeartbeats 3200000 in
theorem legsBetween_any (f t : Nat) (w : World) (h : f ≤ t) (ht : t ≤ 7) :
    Calls Tryz.prog 81 #[.int .i64 f, .int .i64 t] w (Same (.int .u64 (legs f t)) w) := by
  rcases (by omega : t = 0 ∨ t = 1 ∨ t = 2 ∨ t = 3 ∨ t = 4 ∨ t = 5 ∨ t = 6 ∨ t = 7) with rfl | rfl | rfl | rfl | rfl | rfl | rfl | rfl
  all_goals
    rcases (by omega : f = 0 ∨ f = 1 ∨ f = 2 ∨ f = 3 ∨ f = 4 ∨ f = 5 ∨ f = 6 ∨ f = 7) with rfl | rfl | rfl | rfl | rfl | rfl | rfl | rfl
    all_goals first
      | (exfalso; omega)
      | (go_enter Tryz.func81, Tryz.ntmps81
         go_wp2
         go_ret
         exact ⟨rfl, rfl⟩)
theorem and_nat (a b : Nat) (ha : a < 1024) (hb : b < 1024) : bits .and .u64 (a : Int) (b : Int) = ((a &&& b : Nat) : Int) := by
  have e : bits .and .u64 (a : Int) (b : Int) = IntKind.u64.wrap (((BitVec.ofInt 64 (a : Int)) &&& (BitVec.ofInt 64 (b : Int))).toNat : Int) := rfl
  rw [e]
  have e2 : ((BitVec.ofInt 64 (a : Int)) &&& (BitVec.ofInt 64 (b : Int))).toNat = a &&& b := by
    rw [BitVec.toNat_and, BitVec.ofInt_natCast, BitVec.ofInt_natCast, BitVec.toNat_ofNat, BitVec.toNat_ofNat, Nat.mod_eq_of_lt (by omega), Nat.mod_eq_of_lt (by omega)]
  rw [e2]
  have hle : a &&& b ≤ a := Nat.and_le_left
  have hw : ∀ n : Nat, n < 1024 → IntKind.u64.wrap (n : Int) = n := by
    intro n hn
    have e : IntKind.u64.wrap (n : Int) = (n : Int) % 18446744073709551616 := by simp [IntKind.wrap, IntKind.bits, IntKind.signed]
    rw [e]
    omega
  exact hw _ (by omega)
set_option maxRecDepth 20000 in
set_option maxHeartbeats 800000 in
theorem meets_any (a b : Nat) (w : World) (ha : a < 1024) (hb : b < 1024) :
    Calls Tryz.prog 83 #[.int .u64 a, .int .u64 b] w (SameB (a &&& b ≠ 0) w) := by
  have e := and_nat a b ha hb
  go_enter Tryz.func83, Tryz.ntmps83
  go_wp2
  go_ret
  exact ⟨_, rfl, by simp, rfl⟩
theorem legs_lt (f t : Nat) (ht : t ≤ 7) : legs f t < 1024 := by
  unfold legs
  have h1 : 2 ^ t ≤ 2 ^ 7 := Nat.pow_le_pow_right (by omega) ht
  exact Nat.lt_of_le_of_lt (Nat.sub_le _ _) (Nat.lt_of_le_of_lt h1 (by decide))
theorem legs_has (f t leg : Nat) (hf : f ≤ t) (ht : t ≤ 7) (hl : leg < 7) : (legs f t &&& legs leg (leg + 1) ≠ 0) ↔ f ≤ leg ∧ leg < t := by
  have h := legs_meet ⟨f, by omega⟩ ⟨t, by omega⟩ ⟨leg, by omega⟩ ⟨leg + 1, by omega⟩ hf (by simp)
  simp only at h
  rw [h]
  omega
set_option maxRecDepth 20000 in
set_option maxHeartbeats 800000 in
theorem has_any (f t leg : Nat) (w : World) (hf : f ≤ t) (ht : t ≤ 7) (hl : leg < 7) :
    Calls Tryz.prog 116 #[.int .u64 (legs f t), .int .i64 leg] w (SameB (f ≤ leg ∧ leg < t) w) := by
  have HL := Lib.hid (legs_has f t leg hf ht hl)
  have HA := Lib.hid (legs_lt f t ht)
  have HB := Lib.hid (legs_lt leg (leg + 1) (by omega))
  have e1 : IntKind.i64.wrap ((leg : Int) + 1) = ((leg + 1 : Nat) : Int) := by rw [IntWalk.i64_in _ (by omega)]; rfl
  have e2 : ((leg + 1 : Nat) : Int) = (leg : Int) + 1 := rfl
  have HC := Lib.hid (legsBetween_any leg (leg + 1) w (by omega) (by omega))
  rw [e2] at HC
  clear e1 e2
  go_enter Tryz.func116, Tryz.ntmps116
  go_wp2_with fail
  refine HC.out.mono ?_
  rintro e w2 ⟨rfl, rfl⟩
  go_wp2_with fail
  refine (meets_any (legs f t) (legs leg (leg + 1)) w HA.out HB.out).mono ?_
  intro e w2 hp
  by_cases h : f ≤ leg ∧ leg < t
  · obtain ⟨rfl, rfl⟩ := hp.yes (HL.out.2 h)
    have HH := Lib.hid h
    clear h hp
    go_wp2_with fail
    go_ret
    exact ⟨true, rfl, by simp [HH.out], rfl⟩
  · obtain ⟨rfl, rfl⟩ := hp.no (fun hh => h (HL.out.1 hh))
    have HH := Lib.hid h
    clear h hp
    go_wp2_with fail
    go_ret
    exact ⟨false, rfl, by simpa using HH.out, rfl⟩

/-- The ticket of a booking. -/
def tick (f t : Nat) (k : Bool) : Value := .iface (if k = true then 137 else 138) (.agg #[.int .u64 (legs f t)])
set_option maxRecDepth 20000 in
set_option maxHeartbeats 800000 in
theorem ticketOf_any (f t : Nat) (k : Bool) (w : World) (hf : f ≤ t) (ht : t ≤ 7) :
    Calls Tryz.prog 44 #[.agg #[.int .i64 f, .int .i64 t, .bool k]] w (Only (tick f t k) w) := by
  have HB := Lib.hid (below_alloc (Below.refl w.heap.size w) (.cells #[.int .i64 (f : Int), .int .i64 (t : Int), .bool k] 34))
  have HC := Lib.hid (fun W => legsBetween_any f t W hf ht)
  cases k
  all_goals
    go_enter Tryz.func44, Tryz.ntmps44
    go_wp2_with fail
    refine (HC.out _).mono ?_
    rintro e w2 ⟨rfl, rfl⟩
    go_wp2_with fail
    go_ret
    exact ⟨rfl, HB.out⟩
set_option maxRecDepth 20000 in
set_option maxHeartbeats 800000 in
theorem inLegs_any (s : Int) (w : World) : Calls Tryz.prog 246 #[.agg #[.int .u64 s]] w (Only (.int .u64 s) w) := by
  have HB := Lib.hid (below_alloc (Below.refl w.heap.size w) (.cells #[.int .u64 s] 137))
  go_enter Tryz.func246, Tryz.ntmps246
  go_wp2_with fail
  go_ret
  exact ⟨rfl, HB.out⟩
set_option maxRecDepth 20000 in
set_option maxHeartbeats 800000 in
theorem outLegs_any (s : Int) (w : World) : Calls Tryz.prog 247 #[.agg #[.int .u64 s]] w (Only (.int .u64 s) w) := by
  have HB := Lib.hid (below_alloc (Below.refl w.heap.size w) (.cells #[.int .u64 s] 138))
  go_enter Tryz.func247, Tryz.ntmps247
  go_wp2_with fail
  go_ret
  exact ⟨rfl, HB.out⟩
end Go.Proofs.YtgjllminidlolaaGreatDoor
/- Contracts: takenOn and BookingsValid of both. -/
set_option linter.unusedVariables false
namespace Go.Proofs.YtgjllminidlolaaGreatDoor
open Go.RowKit

set_option maxRecDepth 20000 in
set_option maxHeartbeats 3200000 in
theorem takenOn_any (A : Option Addr) (n cap : Nat) (leg : Nat) (k : Bool) (xs : List B3) (w : World) (h : SlE 3 encB w A n xs) (hn : n ≤ 16777216) (hk : ∀ p ∈ xs, OkB 7 p) (hl7 : leg < 7) :
    Calls Tryz.prog 80 #[.slice A n cap, .int .i64 leg, .bool k] w (Only (.int .i64 (taken xs leg k)) w) := by
  have H := Lib.hid h
  have HK := Lib.hid hk
  clear h hk
  go_enter Tryz.func80, Tryz.ntmps80
  go_wp2_with fail
  go_loopw [7, 12, 9] (fun s i _ wr => ∃ j : Nat, j ≤ n ∧ i = .int .i64 j ∧ s = .int .i64 (taken (xs.take j) leg k) ∧ Below w.heap.size w wr) (fun _ i _ _ => n - (intOf i).toNat)
  case atStart => exact ⟨0, by omega, rfl, rfl, Below.refl _ _⟩
  case round =>
    obtain ⟨j, hj, rfl, rfl, hbr⟩ := hrel
    have HR := Lib.hid hbr
    clear hbr
    have hb := taken_bd (xs.take j) leg k
    have hl : (xs.take j).length ≤ j := List.length_take_le _ _
    obtain ⟨b0, b1⟩ := hb
    by_cases hlt : j < n
    · obtain ⟨b, off, x, y, z, rfl, hbl, hx, hd, g0, g1, g2⟩ := atB H.out HR.out hlt
      have HX := Lib.hid (taken_next (leg : Int) k hx)
      have hok := HK.out _ (mem_at hx)
      unfold OkB at hok
      dsimp only at hok
      obtain ⟨x, rfl⟩ : ∃ i : Nat, x = i := ⟨x.toNat, by omega⟩
      obtain ⟨y, rfl⟩ : ∃ i : Nat, y = i := ⟨y.toNat, by omega⟩
      have hxy : x ≤ y := by omega
      have hy7 : y ≤ 7 := by omega
      have HBX := Lib.hid (below_alloc HR.out (.cells #[.int .i64 (x : Int), .int .i64 (y : Int), .bool z] 34))
      clear hd hx hok
      generalize taken (xs.take j) leg k = t at *
      by_cases hk : z = k
      · subst hk
        go_wp2_with fail
        refine (ticketOf_any x y z _ hxy hy7).mono ?_
        rintro e w2 ⟨rfl, hb2⟩
        have HB2 := Lib.hid (below_trans HBX.out hb2)
        clear hb2
        cases z
        all_goals
          simp only [tick, Bool.false_eq_true, if_true, if_false]
          go_wp2_with fail
          first
            | refine (inLegs_any _ _).mono ?_
            | refine (outLegs_any _ _).mono ?_
            | fail
          rintro e w3 ⟨rfl, hb3⟩
          have HB3 := Lib.hid (below_trans HB2.out hb3)
          clear hb3
          go_wp2_with fail
          refine (has_any _ _ leg _ (by omega) (by omega) (by omega)).mono ?_
          intro e w4 hp
          by_cases hin : x ≤ leg ∧ leg < y
          · obtain ⟨rfl, rfl⟩ := hp.yes hin
            have HI := Lib.hid hin
            clear hin hp
            go_wp2_with fail
            go_roundw
            case rel => exact ⟨j + 1, by omega, by go_num, by rw [HX.out, if_pos ⟨by trivial, Int.ofNat_le.2 HI.out.1, Int.ofNat_lt.2 HI.out.2⟩], HB3.out⟩
            case measure => simp [intOf]; omega
          · obtain ⟨rfl, rfl⟩ := hp.no hin
            have HI := Lib.hid hin
            clear hin hp
            go_wp2_with fail
            go_roundw
            case rel => exact ⟨j + 1, by omega, by go_num, by rw [HX.out, if_neg (fun h => HI.out ⟨Int.ofNat_le.1 h.2.1, Int.ofNat_lt.1 h.2.2⟩), Int.add_zero], HB3.out⟩
            case measure => simp [intOf]; omega
      · have d0 : (z == k) = false := by simpa using hk
        go_wp2_with fail
        go_roundw
        case rel => exact ⟨j + 1, by omega, by go_num, by rw [HX.out]; dsimp only; rw [if_neg (fun h => hk h.1), Int.add_zero], HBX.out⟩
        case measure => simp [intOf]; omega
    · have hx : xs.take j = xs := List.take_of_length_le (by have := H.out.len; omega)
      rw [hx]
      clear hx
      go_wp2_with fail
      go_ret
      exact ⟨rfl, HR.out⟩
end Go.Proofs.YtgjllminidlolaaGreatDoor
/- Contracts: BookingsValid of the program. -/
set_option linter.unusedVariables false
namespace Go.Proofs.YtgjllminidlolaaGreatDoor
open Go.RowKit

theorem okB_w {n : Int} {xs : List B3} (hn : n ≤ 7) (h : ∀ p ∈ xs, OkB n p) : ∀ p ∈ xs, OkB 7 p := by
  intro p hp
  have := h p hp
  unfold OkB at *
  omega
set_option maxRecDepth 20000 in
set_option maxHeartbeats 3200000 in
theorem implBookingsValid_any (A : Option Addr) (n : Int) (len cap : Nat) (xs : List B3) (w : World) (h : SlE 3 encB w A len xs) (hn : len ≤ 16777216) :
    Calls Tryz.prog 43 #[.int .i64 n, .slice A len cap] w (OnlyB (BookOk n xs) w) := by
  have H := Lib.hid h
  have hxl := h.len
  have HL := Lib.hid hxl
  clear h hxl
  by_cases hr : 1 ≤ n ∧ n ≤ 7
  · obtain ⟨hr1, hr2⟩ := hr
    by_cases hm : len ≤ 16
    · have hm' : (len : Int) ≤ 16 := by omega
      go_enter Tryz.func43, Tryz.ntmps43
      go_wp2_with (go_at_call 78; refine (legsValid_any _ _).mono ?_; intro e w2 hp; obtain ⟨rfl, rfl⟩ := hp.yes ⟨hr1, hr2⟩)
      go_loopw [18, 6] (fun i _ wr => ∃ k : Nat, k ≤ len ∧ i = .int .i64 k ∧ (∀ p ∈ xs.take k, OkB n p) ∧ Below w.heap.size w wr) (fun i _ _ => len - (intOf i).toNat)
      case atStart => exact ⟨0, by omega, rfl, by simp, Below.refl _ _⟩
      case round =>
        obtain ⟨k, hk, rfl, hall, hbr⟩ := hrel
        have HR := Lib.hid hbr
        have HA := Lib.hid hall
        clear hbr hall
        by_cases hlt : k < len
        · obtain ⟨b, off, x, y, z, rfl, hbl, hx, hd, h0, h1, h2⟩ := atB H.out HR.out hlt
          have HX := Lib.hid hx
          clear hd hx
          go_wp2_with (go_at_call 79; refine (stopsOrdered_any _ _ _ _).mono ?_; intro e w2 hp; rcases hp.cases with ⟨rfl, hp, rfl⟩ | ⟨rfl, hp, rfl⟩)
          all_goals first
            | (go_ret; exact onlyB_false (book_not HX.out (by unfold OkB; dsimp only; omega)) (below_alloc HR.out _))
            | (go_roundw
               case rel => exact ⟨k + 1, by omega, by go_num, allB_next HX.out HA.out (by unfold OkB; dsimp only; omega), below_alloc HR.out _⟩
               case measure => simp [intOf]; omega)
            | fail
        · have hx : xs.take k = xs := List.take_of_length_le (by have := HL.out; omega)
          rw [hx] at HA
          clear hx
          go_wp2
          go_loopw [31, 7] (fun l _ wl => ∃ j : Nat, (j : Int) ≤ n ∧ l = .int .i64 j ∧ (∀ i : Nat, i < j → taken xs i true ≤ 4 ∧ taken xs i false ≤ 6) ∧ Below w.heap.size w wl) (fun l _ _ => (n - intOf l).toNat)
          case atStart => exact ⟨0, by omega, rfl, fun i hi => absurd hi (by omega), HR.out⟩
          case round =>
            obtain ⟨j, hj, rfl, hleg, hbl⟩ := hrel
            have HJ := Lib.hid hleg
            have HM := Lib.hid hbl
            clear hleg hbl
            by_cases hjn : (j : Int) < n
            · have hb1 := taken_bd xs j true
              have hb2 := taken_bd xs j false
              have hxl := HL.out
              have HW := Lib.hid (okB_w hr2 HA.out)
              by_cases h4 : taken xs j true ≤ 4
              · by_cases h6 : taken xs j false ≤ 6
                · have HQ := Lib.hid (And.intro h4 h6)
                  generalize hT : taken xs j true = T4 at *
                  generalize hU : taken xs j false = T6 at *
                  go_wp2_with fail
                  refine (takenOn_any _ _ _ j true _ _ (H.out.below HM.out) hn HW.out (by omega)).mono ?_
                  rintro e w2 ⟨rfl, hc2⟩
                  rw [hT]
                  have HN := Lib.hid (below_trans HM.out hc2)
                  clear hc2
                  go_wp2_with fail
                  refine (takenOn_any _ _ _ j false _ _ (H.out.below HN.out) hn HW.out (by omega)).mono ?_
                  rintro e w3 ⟨rfl, hc3⟩
                  rw [hU]
                  have HO := Lib.hid (below_trans HN.out hc3)
                  clear hc3
                  go_wp2_with fail
                  go_roundw
                  case rel => exact ⟨j + 1, by omega, by go_num, fun i hi => if h : i = j then by rw [h, hT, hU]; exact HQ.out else HJ.out i (by omega), HO.out⟩
                  case measure => simp [intOf]; omega
                · have HQ := Lib.hid (book_leg (n := n) (xs := xs) hjn (fun h => h6 h.2))
                  generalize hT : taken xs j true = T4 at *
                  generalize hU : taken xs j false = T6 at *
                  go_wp2_with fail
                  refine (takenOn_any _ _ _ j true _ _ (H.out.below HM.out) hn HW.out (by omega)).mono ?_
                  rintro e w2 ⟨rfl, hc2⟩
                  rw [hT]
                  have HN := Lib.hid (below_trans HM.out hc2)
                  clear hc2
                  go_wp2_with fail
                  refine (takenOn_any _ _ _ j false _ _ (H.out.below HN.out) hn HW.out (by omega)).mono ?_
                  rintro e w3 ⟨rfl, hc3⟩
                  rw [hU]
                  have HO := Lib.hid (below_trans HN.out hc3)
                  clear hc3
                  go_wp2_with fail
                  go_ret
                  exact onlyB_false HQ.out HO.out
              · have HQ := Lib.hid (book_leg (n := n) (xs := xs) hjn (fun h => h4 h.1))
                generalize hT : taken xs j true = T4 at *
                clear hb2
                go_wp2_with fail
                refine (takenOn_any _ _ _ j true _ _ (H.out.below HM.out) hn HW.out (by omega)).mono ?_
                rintro e w2 ⟨rfl, hc2⟩
                rw [hT]
                have HN := Lib.hid (below_trans HM.out hc2)
                clear hc2
                go_wp2_with fail
                go_ret
                exact onlyB_false HQ.out HN.out
            · go_wp2
              go_ret
              exact onlyB_true ⟨hr1, hr2, by rw [HL.out]; exact hm, HA.out, fun i hi => HJ.out i (by omega)⟩ HM.out
    · have hm' : 16 < (len : Int) := by omega
      go_enter Tryz.func43, Tryz.ntmps43
      go_wp2_with (go_at_call 78; refine (legsValid_any _ _).mono ?_; intro e w2 hp; obtain ⟨rfl, rfl⟩ := hp.yes ⟨hr1, hr2⟩)
      go_ret
      exact onlyB_false (fun hB => hm (by have := hB.2.2.1; rw [HL.out] at this; exact this)) (Below.refl _ _)
  · go_enter Tryz.func43, Tryz.ntmps43
    go_wp2_with (go_at_call 78; refine (legsValid_any _ _).mono ?_; intro e w2 hp; obtain ⟨rfl, rfl⟩ := hp.no hr)
    go_ret
    exact onlyB_false (fun hB => hr ⟨hB.1, hB.2.1⟩) (Below.refl _ _)
end Go.Proofs.YtgjllminidlolaaGreatDoor
/- Contracts: BookingsValid of the reference. -/
set_option linter.unusedVariables false
namespace Go.Proofs.YtgjllminidlolaaGreatDoor
open Go.RowKit

theorem bl_drewN {B : Nat} {a b : World} (h : Below B a b) (n : Nat) : Below B a (b.drewN n) := ⟨h.os, h.tape, h.output, h.size, h.block⟩
theorem l6In_qf (n lo hi : Int) (w : World) (d : Nat) (h : ¬ (lo ≤ n ∧ n ≤ hi)) :
    Calls Tryz.prog 62 #[.int .i64 n, .int .i64 lo, .int .i64 hi] (w.drewN d) (fun e w'' => e = .returned (.bool false) ∧ ∃ m, w'' = w.drewN m) :=
  Calls.quiet_of_same ((l6In_any n lo hi _).mono fun e w' hp => ⟨(hp.no h).1, (hp.no h).2.symm⟩)
set_option maxRecDepth 20000 in
set_option maxHeartbeats 3200000 in
theorem specBookingsValid_any (A : Option Addr) (n : Int) (len cap : Nat) (xs : List B3) (w : World) (h : SlE 3 encB w A len xs) (hn : len ≤ 16777216) :
    Calls Tryz.prog 48 #[.int .i64 n, .slice A len cap] w (OnlyB (BookOk n xs) w) := by
  have H := Lib.hid h
  have hxl := h.len
  have HL := Lib.hid hxl
  clear h hxl
  by_cases hr : 1 ≤ n ∧ n ≤ 7
  · obtain ⟨hr1, hr2⟩ := hr
    by_cases hm : len ≤ 16
    · have hm' : (len : Int) ≤ 16 := by omega
      go_enter Tryz.func48, Tryz.ntmps48
      go_wp2_with (go_at_call 62; refine (l6In_any _ _ _ _).mono ?_; intro e w2 hp; obtain ⟨rfl, rfl⟩ := hp.yes ⟨hr1, hr2⟩)
      go_loopw [5] (fun i wr => ∃ k : Nat, k ≤ len ∧ i = .int .i64 k ∧ (∀ p ∈ xs.take k, OkB n p) ∧ Below w.heap.size w wr) (fun i _ => len - (intOf i).toNat)
      case atStart => exact ⟨0, by omega, rfl, by simp, Below.refl _ _⟩
      case round =>
        obtain ⟨k, hk, rfl, hall, hbr⟩ := hrel
        have HR := Lib.hid hbr
        have HA := Lib.hid hall
        clear hbr hall
        by_cases hlt : k < len
        · obtain ⟨b, off, x, y, z, rfl, hbl, hx, hd, h0, h1, h2⟩ := atB H.out HR.out hlt
          have HX := Lib.hid hx
          clear hd hx
          have hlt' : (k : Int) < (len : Int) := by omega
          have i0 : (0 : Int) ≤ (k : Int) := by omega
          have w1 : IntKind.i64.wrap (n - 1) = n - 1 := IntWalk.i64_in _ (by omega)
          by_cases ha : 0 ≤ x ∧ x ≤ n - 1
          · have w2 : IntKind.i64.wrap (x + 1) = x + 1 := IntWalk.i64_in _ (by omega)
            by_cases hc : x + 1 ≤ y ∧ y ≤ n
            · have ho : OkB n ⟨x, y, z⟩ := by unfold OkB; dsimp only; omega
              have HO := Lib.hid ho
              have K1 := Lib.hid ha
              have K2 := Lib.hid hc
              clear ho ha hc
              go_upto_region 6 with (fail)
              go_region_held3 (fun w' => w'.cell? ⟨b, off + k * 3, none⟩ = some (.int .i64 x) ∧ w'.cell? ⟨b, off + k * 3 + 1, none⟩ = some (.int .i64 y)) (go_keep)
                (first | (go_at_call 62; (with_reducible_and_instances refine (l6In_any x 0 _ _).mono ?_); intro e w' hp; obtain ⟨rfl, rfl⟩ := hp.yes K1.out) | (go_at_call 62; (with_reducible_and_instances refine (l6In_any y _ n _).mono ?_); intro e w' hp; obtain ⟨rfl, rfl⟩ := hp.yes K2.out) | fail)
              clear w1 w2
              go_wp2
              go_roundw
              case rel => exact ⟨k + 1, by omega, by go_num, allB_next HX.out HA.out HO.out, HR.out.drew⟩
              case measure => simp [intOf]; omega
            · have ho : ¬ OkB n ⟨x, y, z⟩ := by unfold OkB; dsimp only; omega
              have HO := Lib.hid (book_not HX.out ho)
              have K1 := Lib.hid ha
              have K2 := Lib.hid hc
              clear ho ha hc
              go_upto_region 6 with (fail)
              go_region_held3 (fun w' => w'.cell? ⟨b, off + k * 3, none⟩ = some (.int .i64 x) ∧ w'.cell? ⟨b, off + k * 3 + 1, none⟩ = some (.int .i64 y)) (go_keep)
                (first | (go_at_call 62; (with_reducible_and_instances refine (l6In_any x 0 _ _).mono ?_); intro e w' hp; obtain ⟨rfl, rfl⟩ := hp.yes K1.out) | (go_at_call 62; (with_reducible_and_instances refine (l6In_any y _ n _).mono ?_); intro e w' hp; obtain ⟨rfl, rfl⟩ := hp.no K2.out) | fail)
              clear w1 w2
              go_wp2
              go_ret
              exact onlyB_false HO.out HR.out.drew
          · have ho : ¬ OkB n ⟨x, y, z⟩ := by unfold OkB; dsimp only; omega
            have HO := Lib.hid (book_not HX.out ho)
            have K1 := Lib.hid ha
            clear ho ha
            go_upto_region 6 with (fail)
            have Q1 := Lib.hid (fun d => l6In_qf x 0 (n - 1) wr d K1.out)
            have Q2 := Lib.hid (fun d => l6In_qf x 0 (IntKind.i64.wrap (n - 1)) wr d (by rw [w1]; exact K1.out))
            clear w1
            go_quiet ((go_at_call 62; first | (with_reducible_and_instances exact Q1.out _) | (with_reducible_and_instances exact Q2.out _) | fail))
            go_wp2
            go_ret
            exact onlyB_false HO.out (bl_drewN HR.out _)
        · have hx : xs.take k = xs := List.take_of_length_le (by have := HL.out; omega)
          rw [hx] at HA
          clear hx
          go_wp2
          go_loopw [6] (fun l wl => ∃ j : Nat, (j : Int) ≤ n ∧ l = .int .i64 j ∧ (∀ i : Nat, i < j → taken xs i true ≤ 4 ∧ taken xs i false ≤ 6) ∧ Below w.heap.size w wl) (fun l _ => (n - intOf l).toNat)
          case atStart => exact ⟨0, by omega, rfl, fun i hi => absurd hi (by omega), HR.out⟩
          case round =>
            obtain ⟨j, hj, rfl, hleg, hbl⟩ := hrel
            have HJ := Lib.hid hleg
            have HM := Lib.hid hbl
            clear hleg hbl
            by_cases hjn : (j : Int) < n
            · have hb1 := taken_bd xs j true
              have hb2 := taken_bd xs j false
              have hxl := HL.out
              by_cases h4 : taken xs j true ≤ 4
              · by_cases h6 : taken xs j false ≤ 6
                · have HQ := Lib.hid (And.intro h4 h6)
                  generalize hT : taken xs j true = T4 at *
                  generalize hU : taken xs j false = T6 at *
                  go_wp2_with fail
                  refine (l4Taken_any _ _ _ j true _ _ (H.out.below HM.out) hn).mono ?_
                  rintro e w2 ⟨rfl, rfl⟩
                  rw [hT]
                  go_wp2_with fail
                  refine (l4Taken_any _ _ _ j false _ _ (H.out.below HM.out) hn).mono ?_
                  rintro e w3 ⟨rfl, rfl⟩
                  rw [hU]
                  go_wp2_with fail
                  go_roundw
                  case rel => exact ⟨j + 1, by omega, by go_num, fun i hi => if h : i = j then by rw [h, hT, hU]; exact HQ.out else HJ.out i (by omega), HM.out⟩
                  case measure => simp [intOf]; omega
                · have HQ := Lib.hid (book_leg (n := n) (xs := xs) hjn (fun h => h6 h.2))
                  generalize hT : taken xs j true = T4 at *
                  generalize hU : taken xs j false = T6 at *
                  go_wp2_with fail
                  refine (l4Taken_any _ _ _ j true _ _ (H.out.below HM.out) hn).mono ?_
                  rintro e w2 ⟨rfl, rfl⟩
                  rw [hT]
                  go_wp2_with fail
                  refine (l4Taken_any _ _ _ j false _ _ (H.out.below HM.out) hn).mono ?_
                  rintro e w3 ⟨rfl, rfl⟩
                  rw [hU]
                  go_wp2_with fail
                  go_ret
                  exact onlyB_false HQ.out HM.out
              · have HQ := Lib.hid (book_leg (n := n) (xs := xs) hjn (fun h => h4 h.1))
                generalize hT : taken xs j true = T4 at *
                clear hb2
                go_wp2_with fail
                refine (l4Taken_any _ _ _ j true _ _ (H.out.below HM.out) hn).mono ?_
                rintro e w2 ⟨rfl, rfl⟩
                rw [hT]
                go_wp2_with fail
                go_ret
                exact onlyB_false HQ.out HM.out
            · go_wp2
              go_ret
              exact onlyB_true ⟨hr1, hr2, by rw [HL.out]; exact hm, HA.out, fun i hi => HJ.out i (by omega)⟩ HM.out
    · have hm' : 16 < (len : Int) := by omega
      go_enter Tryz.func48, Tryz.ntmps48
      go_wp2_with (go_at_call 62; refine (l6In_any _ _ _ _).mono ?_; intro e w2 hp; obtain ⟨rfl, rfl⟩ := hp.yes ⟨hr1, hr2⟩)
      go_ret
      exact onlyB_false (fun hB => hm (by have := hB.2.2.1; rw [HL.out] at this; exact this)) (Below.refl _ _)
  · go_enter Tryz.func48, Tryz.ntmps48
    go_wp2_with (go_at_call 62; refine (l6In_any _ _ _ _).mono ?_; intro e w2 hp; obtain ⟨rfl, rfl⟩ := hp.no hr)
    go_ret
    exact onlyB_false (fun hB => hr ⟨hB.1, hB.2.1⟩) (Below.refl _ _)
end Go.Proofs.YtgjllminidlolaaGreatDoor
/- Appending a whole slice to a row of the call's own; slices.Concat, slices.Grow and slices of slices. -/
set_option linter.unusedVariables false
namespace Go.Proofs.YtgjllminidlolaaGreatDoor
open Go.RowKit

section
variable {P : Program} {α : Type} {k bytes ty base : Nat} {enc : α → List Value} {W : World} {v : Value} {xs ys : List α}
theorem run_cat (hk : ∀ x, (enc x).length = k) (h1 : ∀ x, ∀ u ∈ enc x, u.oneCell' = true) (hk0 : 0 < k) {t tr : TypeId} (ht : P.underlying t = some (.slice ty)) {z : Value}
    (hinfo : (P.info? ty).map (fun i => (i.zero, i.size, i.bytes)) = some (some z, k, bytes)) (hz : z.cells.size = k) (hown : OwnE k enc ty base W v xs) {A : Option Addr} {m c : Nat} (hs : SlE k enc W A m ys)
    (hbytes : (xs.length + m) * bytes ≤ 140737488355328) (h63 : xs.length + m ≤ maxLen) (hbase : base ≤ W.heap.size) :
    ∃ v' w', (Builtin.append_ #[t, t] tr #[v, .slice A m c]).run P W = .ok v' w' ∧ OwnE k enc ty base w' v' (xs ++ ys) ∧ W.grownBy w' v.ownBlock := by
  obtain ⟨i0, hi, hz0, hz1, hz2⟩ := info_parts hinfo
  have hm := hs.len
  subst hm
  have hfl : ((xs ++ ys).flatMap enc) = xs.flatMap enc ++ ys.flatMap enc := by simp
  rcases A with _ | ad
  · have hm : ys.length = 0 := by
      rcases Nat.eq_zero_or_pos ys.length with h0 | h0
      · exact h0
      · obtain ⟨b, off, hA, _⟩ := hs.2 h0
        cases hA
    have hy : ys = [] := List.eq_nil_of_length_eq_zero hm
    subst hy
    refine ⟨v, W, ?_, by simpa using hown, World.grownBy.refl _ _⟩
    rcases hown.2 with ⟨rfl, hx0⟩ | ⟨g, cap, cur, rfl, _, _, hnc, _⟩
    · simp [Builtin.append_, run_underlying ht, sizeOf, typeInfo, hi, Builtin.lenOf, Builtin.firstCells]
    · simp [Builtin.append_, run_underlying ht, sizeOf, typeInfo, hi, Builtin.lenOf, Builtin.firstCells, hnc, storeCells]
  · have hnews : ∀ j u, (ys.flatMap enc)[j]? = some u → W.cell? (ad.add j) = some u := by
      intro j u hu
      have hl : j < ys.length * k := by
        rcases Nat.lt_or_ge j (ys.length * k) with h | h
        · exact h
        · rw [List.getElem?_eq_none (by rw [flat_len hk]; exact h)] at hu; cases hu
      have h0 : 0 < ys.length := by
        rcases Nat.eq_zero_or_pos ys.length with h0 | h0
        · rw [h0] at hl; omega
        · exact h0
      obtain ⟨b, off, hA, _, hc⟩ := hs.2 h0
      injection hA with hA
      subst hA
      have hj : j / k < ys.length := (Nat.div_lt_iff_lt_mul hk0).2 hl
      have hi' : j % k < (enc ys[j / k]).length := by rw [hk]; exact Nat.mod_lt _ hk0
      have e : j / k * k + j % k = j := by rw [Nat.mul_comm]; exact Nat.div_add_mod j k
      have h3 := flat_at hk ys (j / k) _ (List.getElem?_eq_getElem hj) (j % k) _ (List.getElem?_eq_getElem hi')
      rw [e, hu] at h3
      have h4 := hc (j / k) _ (List.getElem?_eq_getElem hj) (j % k) _ (List.getElem?_eq_getElem hi')
      rw [e, ← h3] at h4
      unfold Addr.add
      split
      · rename_i hj0; rw [hj0] at h4; exact h4
      · exact h4
    obtain ⟨v', w', hr, h2, h3, _⟩ := run_append_own (P := P) W base t tr ty i0 z k bytes ht hi hz0 hz1 hz2 hz hk0 v xs.length (xs.flatMap enc) hown ad ys.length c (ys.flatMap enc) (by rw [flat_len hk]) hnews
      (by intro u hu; obtain ⟨x, _, hx⟩ := List.mem_flatMap.1 hu; exact h1 x u hx) h63 hbytes hbase
    refine ⟨v', w', hr, ?_, h3⟩
    unfold OwnE
    rw [hfl, List.length_append]
    exact h2
/-- append(v, s...) as a step of a walk. -/
theorem wpList_cat {ops : Array Oper} {rest : List Oper} {o : Oper} {a : Act} {Q : Exit → Act → World → Prop} (hk : ∀ x, (enc x).length = k) (h1 : ∀ x, ∀ u ∈ enc x, u.oneCell' = true) (hk0 : 0 < k)
    (hgd : o.guard = none) (s y : Operand) (t : TypeId) (ho : o.op = .call { callee := .builtin .append, args := #[s, y], argTypes := #[t, t] })
    (ht : P.underlying t = some (.slice ty)) {z : Value} (hinfo : (P.info? ty).map (fun i => (i.zero, i.size, i.bytes)) = some (some z, k, bytes)) (hz : z.cells.size = k)
    (v : Value) (xs : List α) (hsv : a.eval s = v) (hown : OwnE k enc ty base W v xs) {A : Option Addr} {m c : Nat} (hy : a.eval y = .slice A m c) (hs : SlE k enc W A m ys)
    (hbytes : (xs.length + m) * bytes ≤ 140737488355328) (h63 : xs.length + m ≤ maxLen) (hbase : base ≤ W.heap.size)
    (h : ∀ v' w', OwnE k enc ty base w' v' (xs ++ ys) → W.grownBy w' v.ownBlock → wpList P ops Q rest (a.put o.dst v') w') :
    wpList P ops Q (o :: rest) a W := by
  obtain ⟨v', w', hr, h2, h3⟩ := run_cat (P := P) (tr := o.type) hk h1 hk0 ht hinfo hz hown hs hbytes h63 hbase (c := c)
  exact Lib.wpList_append_run W hgd s y t t ho _ _ hsv hy v' w' hr (h v' w' h2 h3)
theorem step_cat {ops : Array Oper} {o : Oper} {a : Act} {K : Act → World → Prop} {Q : Exit → Act → World → Prop} {E : Prop} (hk : ∀ x, (enc x).length = k) (h1 : ∀ x, ∀ u ∈ enc x, u.oneCell' = true) (hk0 : 0 < k)
    (hgd : o.guard = none) (s y : Operand) (t : TypeId) (ho : o.op = .call { callee := .builtin .append, args := #[s, y], argTypes := #[t, t] })
    (ht : P.underlying t = some (.slice ty)) {z : Value} (hinfo : (P.info? ty).map (fun i => (i.zero, i.size, i.bytes)) = some (some z, k, bytes)) (hz : z.cells.size = k)
    (v : Value) (xs : List α) (hsv : a.eval s = v) (hown : OwnE k enc ty base W v xs) {A : Option Addr} {m c : Nat} (hy : a.eval y = .slice A m c) (hs : SlE k enc W A m ys)
    (hbytes : (xs.length + m) * bytes ≤ 140737488355328) (h63 : xs.length + m ≤ maxLen) (hbase : base ≤ W.heap.size)
    (h : ∀ v' w', OwnE k enc ty base w' v' (xs ++ ys) → W.grownBy w' v.ownBlock → K (a.put o.dst v') w') :
    if Region.wanted o (yielded ops a.tmps) = true then Oper.wp P o a W K Q else E := by
  rw [if_pos (by simp [Region.wanted, hgd])]
  obtain ⟨v', w', hr, h2, h3⟩ := run_cat (P := P) (tr := o.type) hk h1 hk0 ht hinfo hz hown hs hbytes h63 hbase (c := c)
  exact Lib.wp_append_run W s y t t ho _ _ hsv hy v' w' hr (h v' w' h2 h3)
end

/-- clear of what lies behind the elements. -/
theorem run_clear_tail {P : Program} {α : Type} {k bytes ty base : Nat} {enc : α → List Value} {W : World} {xs : List α} (hk : ∀ x, (enc x).length = k) {t tr : TypeId} (ht : P.underlying t = some (.slice ty)) {z : Value}
    (hinfo : (P.info? ty).map (fun i => (i.zero, i.size, i.bytes)) = some (some z, k, bytes)) (hz : z.cells.size = k) (hz1 : ∀ u ∈ z.cells.toList, u.oneCell' = true) {g n cap m c : Nat}
    (hown : OwnE k enc ty base W (.slice (some ⟨g, 0, none⟩) n cap) xs) (hn : xs.length = n) (hm : 0 < m) (hroom : n + m ≤ cap) :
    ∃ w', (Builtin.clear_ #[t] tr #[.slice (some ⟨g, n * k, none⟩) m c]).run P W = .ok (.tuple #[]) w' ∧ OwnE k enc ty base w' (.slice (some ⟨g, 0, none⟩) n cap) xs ∧ W.grownBy w' (some g) := by
  obtain ⟨i0, hi, hz0, hs, hb⟩ := info_parts hinfo
  subst hn
  rcases hown.2 with ⟨h', _⟩ | ⟨g', cap', cur, h', hb', hg, hnc, hcm, hcs, htake⟩
  · simp at h'
  · injection h' with e1 e2 e3
    injection e1 with e1
    injection e1 with e1
    subst e1 e3
    have hl : (Builtin.zeroCells z.cells m).toList.length = m * k := by rw [Array.length_toList, size_zeroCells, hz]
    have hone : ∀ u ∈ (Builtin.zeroCells z.cells m).toList, u.oneCell' = true := by
      intro u hu
      simp only [Builtin.zeroCells, Array.toList_map, Array.toList_range, List.mem_map, List.mem_range] at hu
      obtain ⟨j, hj, rfl⟩ := hu
      have hp : 0 < z.cells.size := by
        rcases Nat.eq_zero_or_pos z.cells.size with h0 | h0
        · rw [h0] at hj; omega
        · exact h0
      have hj' : j % z.cells.size < z.cells.size := Nat.mod_lt _ hp
      rw [getElem!_pos z.cells _ hj']
      exact hz1 _ (Array.getElem_mem_toList hj')
    have hst := run_storeCells_at P g (xs.length * k) ty (Builtin.zeroCells z.cells m).toList 0 cur W hg (by rw [hl, hcs, Nat.add_zero, ← Nat.add_mul]; exact Nat.mul_le_mul_right _ hroom) hone
    simp only [Nat.add_zero] at hst
    have hrun : (Builtin.clear_ #[t] tr #[.slice (some ⟨g, xs.length * k, none⟩) m c]).run P W = .ok (.tuple #[]) (W.setRow g (cur.toList.take (xs.length * k) ++ (Builtin.zeroCells z.cells m).toList ++ cur.toList.drop (xs.length * k + (Builtin.zeroCells z.cells m).toList.length)).toArray) := by
      obtain ⟨m', rfl⟩ : ∃ m', m = m' + 1 := ⟨m - 1, by omega⟩
      simp [Builtin.clear_, run_underlying ht, zeroValue, typeInfo, hi, hz0] at hst ⊢
      rw [hst]
      simp
    refine ⟨_, hrun, ⟨flat_len hk _, .inr ⟨g, cap, _, rfl, hb', setRow_heap W g cur _ ty _ hg, hnc, hcm, ?_, ?_⟩⟩, ⟨rfl, rfl, rfl, by simp, fun j _ hj => setRow_other W g j _ (fun e => hj (by rw [e]))⟩⟩
    · have h1 : (xs.length + m) * k ≤ cap * k := Nat.mul_le_mul_right _ hroom
      rw [Nat.add_mul] at h1
      simp only [List.size_toArray, List.length_append, List.length_take, List.length_drop, Array.length_toList, hl, hcs]
      omega
    · have h1 : (xs.length + m) * k ≤ cap * k := Nat.mul_le_mul_right _ hroom
      rw [Nat.add_mul] at h1
      have hcl : cur.toList.length = cap * k := by rw [Array.length_toList (xs := cur), hcs]
      rw [List.append_assoc, List.take_left' (by rw [List.length_take, hcl]; omega)]
      exact htake
/-- append(v, s...) where there is room. -/
theorem step_cat_fits {P : Program} {α : Type} {k bytes ty base : Nat} {enc : α → List Value} {W : World} {xs ys : List α} {ops : Array Oper} {o : Oper} {a : Act} {K : Act → World → Prop} {Q : Exit → Act → World → Prop} {E : Prop} (hk : ∀ x, (enc x).length = k) (h1 : ∀ x, ∀ u ∈ enc x, u.oneCell' = true) (hk0 : 0 < k)
    (hgd : o.guard = none) (s y : Operand) (t : TypeId) (ho : o.op = .call { callee := .builtin .append, args := #[s, y], argTypes := #[t, t] })
    (ht : P.underlying t = some (.slice ty)) {z : Value} (hinfo : (P.info? ty).map (fun i => (i.zero, i.size, i.bytes)) = some (some z, k, bytes))
    {g n cap : Nat} (hsv : a.eval s = .slice (some ⟨g, 0, none⟩) n cap) (hown : OwnE k enc ty base W (.slice (some ⟨g, 0, none⟩) n cap) xs) (hn : xs.length = n) {A : Option Addr} {m c : Nat} (hA : A.isSome = true) (hy : a.eval y = .slice A m c) (hs : SlE k enc W A m ys)
    (hroom : n + m ≤ cap)
    (h : ∀ w', OwnE k enc ty base w' (.slice (some ⟨g, 0, none⟩) (n + m) cap) (xs ++ ys) → W.grownBy w' (some g) → K (a.put o.dst (.slice (some ⟨g, 0, none⟩) (n + m) cap)) w') :
    if Region.wanted o (yielded ops a.tmps) = true then Oper.wp P o a W K Q else E := by
  rw [if_pos (by simp [Region.wanted, hgd])]
  obtain ⟨i0, hi, hz0, hz1, hz2⟩ := info_parts hinfo
  have hm := hs.len
  subst hn hm
  obtain ⟨ad, rfl⟩ := Option.isSome_iff_exists.1 hA
  have hnews : ∀ j u, (ys.flatMap enc)[j]? = some u → W.cell? (ad.add j) = some u := by
    intro j u hu
    have hl : j < ys.length * k := by
      rcases Nat.lt_or_ge j (ys.length * k) with h | h
      · exact h
      · rw [List.getElem?_eq_none (by rw [flat_len hk]; exact h)] at hu; cases hu
    have h0 : 0 < ys.length := by
      rcases Nat.eq_zero_or_pos ys.length with h0 | h0
      · rw [h0] at hl; omega
      · exact h0
    obtain ⟨b', off', hA', _, hc⟩ := hs.2 h0
    injection hA' with hA'
    subst hA'
    have hj : j / k < ys.length := (Nat.div_lt_iff_lt_mul hk0).2 hl
    have hi' : j % k < (enc ys[j / k]).length := by rw [hk]; exact Nat.mod_lt _ hk0
    have e : j / k * k + j % k = j := by rw [Nat.mul_comm]; exact Nat.div_add_mod j k
    have h3 := flat_at hk ys (j / k) _ (List.getElem?_eq_getElem hj) (j % k) _ (List.getElem?_eq_getElem hi')
    rw [e, hu] at h3
    have h4 := hc (j / k) _ (List.getElem?_eq_getElem hj) (j % k) _ (List.getElem?_eq_getElem hi')
    rw [e, ← h3] at h4
    unfold Addr.add
    split
    · rename_i hj0; rw [hj0] at h4; exact h4
    · exact h4
  obtain ⟨w', hr, h2, h3⟩ := run_append_fits (P := P) W base t o.type ty i0 k ht hi hz1 g xs.length cap (xs.flatMap enc) hown ad ys.length c (ys.flatMap enc) (by rw [flat_len hk]) hnews
    (by intro u hu; obtain ⟨x, _, hx⟩ := List.mem_flatMap.1 hu; exact h1 x u hx) hroom
  refine Lib.wp_append_run W s y t t ho _ _ hsv hy _ w' hr (h w' ?_ h3)
  have hfl : ((xs ++ ys).flatMap enc) = xs.flatMap enc ++ ys.flatMap enc := by simp
  unfold OwnE
  rw [hfl, List.length_append]
  exact h2
/-- A part of a slice, from its head on. -/
theorem SlE.take {α : Type} {k : Nat} {enc : α → List Value} {w : World} {A : Option Addr} {n : Nat} {xs : List α} (h : SlE k enc w A n xs) {j : Nat} (hj : j ≤ n) : SlE k enc w A j (xs.take j) :=
  ⟨by rw [List.length_take, h.len]; omega, fun hn => by
    obtain ⟨b, off, hA, hlt, hc⟩ := h.2 (by omega)
    exact ⟨b, off, hA, hlt, fun i p hp => hc i p (by rw [List.getElem?_take] at hp; split at hp; exact hp; cases hp)⟩⟩
/-- A part of a slice, up to its end. -/
theorem SlE.drop {α : Type} {k : Nat} {enc : α → List Value} {w : World} {A : Option Addr} {n : Nat} {xs : List α} (h : SlE k enc w A n xs) {j : Nat} (hj : j ≤ n) {A' : Option Addr}
    (hA' : ∀ b off, A = some ⟨b, off, none⟩ → j < n → A' = some ⟨b, off + j * k, none⟩) : SlE k enc w A' (n - j) (xs.drop j) :=
  ⟨by rw [List.length_drop, h.len], fun hn => by
    obtain ⟨b, off, hA, hlt, hc⟩ := h.2 (by omega)
    refine ⟨b, off + j * k, hA' b off hA (by omega), hlt, fun i p hp u v hv => ?_⟩
    rw [List.getElem?_drop] at hp
    have := hc (j + i) p hp u v hv
    rw [Nat.add_mul] at this
    have e : off + j * k + (i * k + u) = off + (j * k + i * k + u) := by omega
    rw [e]
    exact this⟩

theorem addr_add' (b off i : Nat) : (⟨b, off, none⟩ : Addr).add i = ⟨b, off + i, none⟩ := by
  unfold Addr.add
  split
  · rename_i h; subst h; rfl
  · rfl
/-- The same, as the walk spells it. -/
theorem SlE.cut {α : Type} {k : Nat} {enc : α → List Value} {w : World} {A : Option Addr} {n cap : Nat} {xs : List α} (h : SlE k enc w A n xs) {j : Nat} (hj : j ≤ n) (hc : n ≤ cap) :
    SlE k enc w (if cap = j then A else A.map (fun x => x.add (j * k))) (n - j) (xs.drop j) :=
  h.drop hj fun b off hA hjn => by
    rw [if_neg (by omega), hA]
    simp only [Option.map_some, addr_add']
theorem SlE.cut1 {α : Type} {enc : α → List Value} {w : World} {A : Option Addr} {n cap : Nat} {xs : List α} (h : SlE 1 enc w A n xs) {j : Nat} (hj : j ≤ n) (hc : n ≤ cap) :
    SlE 1 enc w (if cap = j then A else A.map (fun x => x.add j)) (n - j) (xs.drop j) := by
  have := h.cut hj hc
  simpa only [Nat.mul_one] using this

/-- A slice value as it is handed on, with what it reads as. -/
structure Sn (α : Type) where
  A : Option Addr
  n : Nat
  c : Nat
  xs : List α
/-- Slices of slices: the cells hold the slice values, each of which reads as its list. -/
def SlS {α : Type} (k : Nat) (enc : α → List Value) (w : World) (A : Option Addr) (m : Nat) (ss : List (Sn α)) : Prop :=
  SlE 1 (fun s : Sn α => [Value.slice s.A s.n s.c]) w A m ss ∧ ∀ s ∈ ss, SlE k enc w s.A s.n s.xs
theorem slS_new {α : Type} {k : Nat} {enc : α → List Value} {w : World} (ss : List (Sn α)) (cs : Array Value) (ty : TypeId) (hcs : cs.toList = ss.map fun s => Value.slice s.A s.n s.c) {m : Nat} (hm : ss.length = m) (h : ∀ s ∈ ss, SlE k enc w s.A s.n s.xs) :
    SlS k enc (w.alloc (.cells cs ty)) (some ⟨w.heap.size, 0, none⟩) m ss := by
  refine ⟨⟨hm, fun hn => ⟨w.heap.size, 0, rfl, by simp, fun j p hp i v hv => ?_⟩⟩, fun s hs => (h s hs).alloc _⟩
  have hi : i = 0 := by
    rcases i with _ | i
    · rfl
    · simp at hv
  subst hi
  simp only [List.getElem?_cons_zero, Option.some.injEq] at hv
  subst hv
  have e : 0 + (j * 1 + 0) = j := by omega
  rw [e, cell_of_row (w.alloc (.cells cs ty)) w.heap.size j cs ty (0, 0) (heap_alloc_new w _), ← Array.getElem?_toList, hcs, List.getElem?_map, hp]
  rfl
def snLen {α : Type} (ss : List (Sn α)) : Nat := (ss.map Sn.n).sum
def snAll {α : Type} (ss : List (Sn α)) : List α := ss.flatMap Sn.xs
theorem SlS.below {α : Type} {k : Nat} {enc : α → List Value} {w w' : World} {A : Option Addr} {m : Nat} {ss : List (Sn α)} (h : SlS k enc w A m ss) (hb : Below w.heap.size w w') : SlS k enc w' A m ss :=
  ⟨h.1.below hb, fun s hs => (h.2 s hs).below hb⟩
theorem SlS.all_len {α : Type} {k : Nat} {enc : α → List Value} {w : World} {A : Option Addr} {m : Nat} {ss : List (Sn α)} (h : SlS k enc w A m ss) : (snAll ss).length = snLen ss := by
  have : ∀ l : List (Sn α), (∀ s ∈ l, SlE k enc w s.A s.n s.xs) → (snAll l).length = snLen l := by
    intro l
    induction l with
    | nil => intro _; rfl
    | cons s l ih =>
      intro hl
      have h1 := ih fun q hq => hl q (List.mem_cons_of_mem _ hq)
      have h2 := (hl s (List.mem_cons_self ..)).len
      simp only [snAll, snLen, List.flatMap_cons, List.length_append, List.map_cons, List.sum_cons] at h1 ⊢
      omega
  exact this ss h.2
theorem snLen_next {α : Type} {ss : List (Sn α)} {j : Nat} {s : Sn α} (h : ss[j]? = some s) : snLen (ss.take (j + 1)) = snLen (ss.take j) + s.n := by
  rw [take_next h]; simp [snLen]
theorem snAll_next {α : Type} {ss : List (Sn α)} {j : Nat} {s : Sn α} (h : ss[j]? = some s) : snAll (ss.take (j + 1)) = snAll (ss.take j) ++ s.xs := by
  rw [take_next h]; simp [snAll]
theorem snLen_append {α : Type} (a b : List (Sn α)) : snLen (a ++ b) = snLen a + snLen b := by simp [snLen]
theorem snLen_take {α : Type} (ss : List (Sn α)) (j : Nat) : snLen (ss.take j) ≤ snLen ss := by
  have h := snLen_append (ss.take j) (ss.drop j)
  rw [List.take_append_drop] at h
  omega
end Go.Proofs.YtgjllminidlolaaGreatDoor
/- Contracts: slices.Grow of nil and slices.Concat, at []impl.Booking. -/
set_option linter.unusedVariables false
namespace Go.Proofs.YtgjllminidlolaaGreatDoor
open Go.RowKit

theorem info_conB : (Tryz.prog.info? 34).map (fun i => (i.zero, i.size, i.bytes)) = some (some (.agg #[.int .i64 0, .int .i64 0, .bool false]), 3, 24) := by kernel_rfl

set_option maxRecDepth 20000 in
set_option maxHeartbeats 800000 in
theorem growB_any (n : Nat) (w : World) (hn : n ≤ 16777216) :
    Calls Tryz.prog 227 #[.slice none 0 0, .int .i64 n] w (RetOwn 3 encB 34 [] w) := by
  obtain ⟨i0, hi, hz0, hz1, hz2⟩ := info_parts info_conB
  have HI := Lib.hid hi
  have HZ0 := Lib.hid hz0
  have HZ1 := Lib.hid hz1
  have HZ2 := Lib.hid hz2
  clear hi hz0 hz1 hz2
  by_cases h0 : 0 < n
  · have h0' : 0 < (n : Int) := by omega
    go_enter Tryz.func227, Tryz.ntmps227
    go_wp2_with (at_builtin; refine Lib.wpList_append_run _ rfl _ _ _ _ rfl _ _ rfl rfl _ _ (Lib.run_append_nil_zeros w 26 3 _ 34 i0 _ .i64 .i64 Tryz.underlying26 Tryz.underlying3 HI.out HZ0.out n h0 (by rw [HZ1.out]; omega) (by omega) (by rw [HZ2.out]; omega)) ?_)
    go_ret
    exact ⟨_, rfl, World.ownsRow_made w.drew _ _ (Nat.le_refl _) (grownCap_le_maxLen w n 0 34 (by unfold maxLen; omega)) (by
      have hge := grownCap_ge w n 0 34
      simp only [Array.size_append, size_zeroCells]
      show n * 3 + (grownCap w n 0 34 - n) * 3 = _
      omega), below_alloc (below_drew (Below.refl _ _)) _⟩
  · have e : n = 0 := by omega
    subst e
    go_enter Tryz.func227, Tryz.ntmps227
    go_wp2
    go_ret
    exact ⟨_, rfl, World.ownsRow_nil _ _ _ _, Below.refl _ _⟩

set_option maxHeartbeats 800000 in
theorem concatB_any {A : Option Addr} {m cap : Nat} {ss : List (Sn B3)} {w : World} (h : SlS 3 encB w A m ss) (hm : m ≤ 1024) (hl : snLen ss ≤ 4194304) :
    Calls Tryz.prog 224 #[.slice A m cap] w (RetOwn 3 encB 34 (snAll ss) w) := by
  have H := Lib.hid h
  clear h
  go_enter Tryz.func224, Tryz.ntmps224
  go_wp2
  go_loop [3, 11, 5] (fun z i _ => ∃ j : Nat, j ≤ m ∧ i = .int .i64 j ∧ z = .int .i64 (snLen (ss.take j))) (fun _ i _ => m - (intOf i).toNat)
  case atStart => exact ⟨0, by omega, rfl, rfl⟩
  case round =>
    obtain ⟨j, hj, rfl, rfl⟩ := hrel
    have ht := snLen_take ss j
    by_cases hjm : j < m
    · obtain ⟨b, off, s, rfl, hbl, hx, hd, hc⟩ := H.out.1.at_ hjm
      have hc0 := hc 0 _ rfl
      simp only [Nat.mul_one, Nat.add_zero] at hc0
      have HX := Lib.hid (snLen_next hx)
      have ht1 := snLen_take ss (j + 1)
      rw [HX.out] at ht1
      obtain ⟨sA, sn, sc, sxs⟩ := s
      simp only at hc0 ht1 HX
      clear hx hd hc
      generalize snLen (ss.take j) = z at *
      go_wp2
      go_round
      case rel => exact ⟨j + 1, by omega, by go_num, by rw [HX.out]; go_num⟩
      case measure => simp [intOf]; omega
    · have e : j = m := by omega
      subst e
      have hx : ss.take j = ss := List.take_of_length_le (by have := H.out.1.len; omega)
      rw [hx]
      clear hx ht
      have HL := Lib.hid hl
      clear hl
      generalize hz : snLen ss = z
      have HZ := Lib.hid hz
      have hzl : z ≤ 4194304 := by rw [← hz]; exact HL.out
      clear hz
      go_wp2_with (go_at_call 227; refine (growB_any z w (by omega)).mono ?_; rintro e w1 ⟨v, rfl, hown, hb1⟩; have HO := Lib.hid hown; have HB := Lib.hid hb1; clear hown hb1)
      go_loopw [6, 27, 8] (fun s i _ wr => ∃ q : Nat, q ≤ j ∧ i = .int .i64 q ∧ OwnE 3 encB 34 w.heap.size wr s (snAll (ss.take q)) ∧ Below w.heap.size w wr) (fun _ i _ _ => j - (intOf i).toNat)
      case atStart => exact ⟨0, by omega, rfl, HO.out, HB.out⟩
      case round =>
        obtain ⟨q, hq, rfl, hown, hbr⟩ := hrel
        have HR := Lib.hid hbr
        have HW := Lib.hid hown
        have hbs := hbr.size
        clear hown hbr
        by_cases hqm : q < j
        · obtain ⟨b, off, s, rfl, hbl, hx, hd, hc⟩ := (H.out.1.below HR.out).at_ hqm
          have hc0 := hc 0 _ rfl
          simp only [Nat.mul_one, Nat.add_zero] at hc0
          have HX := Lib.hid (snAll_next hx)
          have HS := Lib.hid ((H.out.2 s (mem_at hx)).below HR.out)
          have hlen : (snAll (ss.take q)).length + s.n ≤ 4194304 := by
            have h1 := snLen_next hx
            have h2 := snLen_take ss (q + 1)
            have h3 : SlS 3 encB w (some ⟨b, off, none⟩) (ss.take q).length (ss.take q) := ⟨⟨rfl, fun hn => by
              obtain ⟨b', off', hA, hlt, hcc⟩ := H.out.1.2 (by have := List.length_take_le q ss; omega)
              exact ⟨b', off', hA, hlt, fun jj p hp => hcc jj p (by rw [List.getElem?_take] at hp; split at hp; exact hp; cases hp)⟩⟩, fun s' hs' => H.out.2 s' (mem_take_of hs')⟩
            rw [h3.all_len]
            have := HL.out
            omega
          obtain ⟨sA, sn, sc, sxs⟩ := s
          simp only at hc0 HX HS hlen
          clear hx hd hc
          go_wp2_with (at_builtin; refine wpList_cat (bytes := 24) encB_len encB_one (by omega) rfl _ _ _ rfl Tryz.underlying26 info_conB rfl _ (snAll (ss.take q)) rfl HW.out rfl HS.out (by omega) (by unfold maxLen; omega) hbs ?_; intro v' w' hown' hg'; have HO' := Lib.hid hown'; have HB' := Lib.hid (below_grown HR.out hg' HW.out (Nat.le_refl _)); clear hown' hg')
          go_roundw
          case rel => exact ⟨q + 1, by omega, by go_num, by rw [HX.out]; exact HO'.out, HB'.out⟩
          case measure => simp [intOf]; omega
        · have hx : ss.take q = ss := List.take_of_length_le (by have := H.out.1.len; omega)
          rw [hx] at HW
          clear hx
          go_wp2
          go_ret
          exact ⟨_, rfl, HW.out, HR.out⟩
end Go.Proofs.YtgjllminidlolaaGreatDoor
