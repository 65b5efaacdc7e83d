/- Contracts: the seats of a coach: seats, free, take, seatsOf. -/
import Derived.Test.YtgjllminidlolaaGreatDoorSWalkD
import Derived.Test.YtgjllminidlolaaGreatDoorPlains
set_option linter.unusedVariables false
namespace Go.Proofs.YtgjllminidlolaaGreatDoor
open Go.RowKit

def baseOf (k : Bool) : Nat := if k = true then 0 else 4
/-- Block g holds the seats of a coach: for each kind and seat, a set of legs. -/
def CoachAt (w : World) (g : Nat) (S : Bool → Nat → Nat) : Prop :=
  g < w.heap.size ∧ (∀ j, w.frozen? ⟨g, j, none⟩ = false) ∧ ∀ (k : Bool) (s : Nat), s < capOf k → w.cell? ⟨g, baseOf k + s, none⟩ = some (.int .u64 (S k s)) ∧ S k s < 1024
theorem CoachAt.below {w w' : World} {g : Nat} {S : Bool → Nat → Nat} (h : CoachAt w g S) (hb : Below w.heap.size w w') : CoachAt w' g S :=
  ⟨Nat.lt_of_lt_of_le h.1 hb.size, fun j => (hb.frozen (p := ⟨g, j, none⟩) h.1).trans (h.2.1 j), fun k s hs => ⟨(hb.cell (p := ⟨g, _, none⟩) h.1).trans (h.2.2 k s hs).1, (h.2.2 k s hs).2⟩⟩

section
variable {P : Program} {fs : Array Field}
/-- 'x.(T)' with ok, T a struct: x holds a T. -/
theorem run_assert_yes (t xT : TypeId) (v : Value) (h : P.underlying t = some (.struct fs)) (w : World) : (Instr.typeAssert (.iface t v) xT t true).run P w = .ok (.tuple #[v, .bool true]) w := by
  simp [Instr.typeAssert, run_underlying h, go_sem, Result.andThen]
/-- The same, where x holds another type. -/
theorem run_assert_no (t a xT : TypeId) (v z : Value) (h : P.underlying a = some (.struct fs)) (hne : t ≠ a) (hz : (P.info? a).map (·.zero) = some (some z)) (w : World) :
    (Instr.typeAssert (.iface t v) xT a true).run P w = .ok (.tuple #[z, .bool false]) w := by
  obtain ⟨j, hj, hz'⟩ := Option.map_eq_some_iff.1 hz
  simp [Instr.typeAssert, run_underlying h, hne, zeroValue, typeInfo, hj, hz', go_sem, Result.andThen]
end
theorem asIn (v : Value) (w : World) : (Instr.typeAssert (.iface 137 v) 80 137 true).run Tryz.prog w = .ok (.tuple #[v, .bool true]) w := run_assert_yes _ _ _ Tryz.underlying137 w
theorem asOut (v : Value) (w : World) : (Instr.typeAssert (.iface 138 v) 80 138 true).run Tryz.prog w = .ok (.tuple #[v, .bool true]) w := run_assert_yes _ _ _ Tryz.underlying138 w
theorem asNot (v : Value) (w : World) : (Instr.typeAssert (.iface 138 v) 80 137 true).run Tryz.prog w = .ok (.tuple #[.agg #[.int .u64 0], .bool false]) w :=
  run_assert_no _ _ _ _ _ Tryz.underlying137 (by decide) (by kernel_rfl) w
attribute [local go_sem] asIn asOut asNot

theorem or_nat (a b : Nat) (ha : a < 1024) (hb : b < 1024) : bits .or .u64 (a : Int) (b : Int) = ((a ||| b : Nat) : Int) := by
  have e : bits .or .u64 (a : Int) (b : Int) = IntKind.u64.wrap (((BitVec.ofInt 64 (a : Int)) ||| (BitVec.ofInt 64 (b : Int))).toNat : Int) := rfl
  rw [e]
  have e2 : ((BitVec.ofInt 64 (a : Int)) ||| (BitVec.ofInt 64 (b : Int))).toNat = a ||| b := by
    rw [BitVec.toNat_or, BitVec.ofInt_natCast, BitVec.ofInt_natCast, BitVec.toNat_ofNat, BitVec.toNat_ofNat, Nat.mod_eq_of_lt (by omega), Nat.mod_eq_of_lt (by omega)]
  rw [e2]
  have hlt : a ||| b < 2 ^ 10 := Nat.or_lt_two_pow ha hb
  have e3 : IntKind.u64.wrap ((a ||| b : Nat) : Int) = ((a ||| b : Nat) : Int) % 18446744073709551616 := by simp [IntKind.wrap, IntKind.bits, IntKind.signed]
  rw [e3]
  omega
set_option maxRecDepth 20000 in
set_option maxHeartbeats 800000 in
theorem with_any (a b : Nat) (w : World) (ha : a < 1024) (hb : b < 1024) :
    Calls Tryz.prog 84 #[.int .u64 a, .int .u64 b] w (Same (.int .u64 ((a ||| b : Nat) : Int)) w) := by
  have e := or_nat a b ha hb
  go_enter Tryz.func84, Tryz.ntmps84
  go_wp2
  go_ret
  exact ⟨rfl, rfl⟩

/-- The seat s of the kind k taken on the legs l too. -/
def takeS (S : Bool → Nat → Nat) (k : Bool) (s l : Nat) : Bool → Nat → Nat := fun k' s' => if k' = k ∧ s' = s then S k s ||| l else S k' s'
/-- How a call that takes a seat ends. -/
def TookW (w : World) (g : Nat) (S : Bool → Nat → Nat) (w' : World) : Prop := CoachAt w' g S ∧ w.grownBy w' (some g)
def Took (w : World) (g : Nat) (S : Bool → Nat → Nat) (e : Ending) (w' : World) : Prop := e = .returned (.tuple #[]) ∧ TookW w g S w'
theorem coach_take {w W : World} {g : Nat} {S : Bool → Nat → Nat} (h : CoachAt w g S) (hb : Below w.heap.size w W) (k : Bool) (s l : Nat) (hs : s < capOf k) (hl : l < 1024) :
    TookW w g (takeS S k s l) (W.setCell ⟨g, baseOf k + s, none⟩ (.int .u64 ((S k s ||| l : Nat) : Int))) := by
  have h' := h.below hb
  refine ⟨⟨by simpa using h'.1, fun j => by rw [World.frozen?_setCell]; exact h'.2.1 j, fun k' s' hs' => ?_⟩, hb.os, hb.tape, hb.output, by simpa using hb.size, fun j hj hne => ?_⟩
  · by_cases e : k' = k ∧ s' = s
    · obtain ⟨rfl, rfl⟩ := e
      refine ⟨?_, ?_⟩
      · have := World.cell?_setCell_same (w := W) (a := ⟨g, baseOf k' + s', none⟩) (v := .int .u64 ((S k' s' ||| l : Nat) : Int)) (h'.2.2 k' s' hs').1
        simpa [takeS] using this
      · simp only [takeS, and_self, if_true]
        exact Nat.or_lt_two_pow (n := 10) (h'.2.2 k' s' hs').2 hl
    · have hne : baseOf k + s ≠ baseOf k' + s' := by
        intro hh
        apply e
        cases k <;> cases k' <;> simp [baseOf, capOf] at * <;> omega
      have := World.cell?_setCell_other (w := W) (a := ⟨g, baseOf k + s, none⟩) (b := ⟨g, baseOf k' + s', none⟩) (v := .int .u64 ((S k s ||| l : Nat) : Int)) (by intro hh; injection hh with h1 h2; exact hne h2)
      simp only [takeS, if_neg e]
      exact ⟨this.trans (h'.2.2 k' s' hs').1, (h'.2.2 k' s' hs').2⟩
  · exact (Below.heap_setCell W _ _ j (fun e => hne (by rw [e]))).trans (hb.block j hj)

def tickIn (v : Int) : Value := .iface 137 (.agg #[.int .u64 v])
set_option maxRecDepth 20000 in
set_option maxHeartbeats 800000 in
theorem seatsIn_any (g : Nat) (v : Int) (w : World) :
    Calls Tryz.prog 82 #[.pointer (some ⟨g, 0, none⟩), .iface 137 (.agg #[.int .u64 v])] w (Same (.slice (some ⟨g, 0, none⟩) 4 4) w) := by
  go_enter Tryz.func82, Tryz.ntmps82
  go_wp2
  go_ret
  exact ⟨rfl, rfl⟩
set_option maxRecDepth 20000 in
set_option maxHeartbeats 800000 in
theorem seatsOfIn_any (v : Int) (w : World) :
    Calls Tryz.prog 45 #[.iface 137 (.agg #[.int .u64 v])] w (Same (.int .i64 4) w) := by
  go_enter Tryz.func45, Tryz.ntmps45
  go_wp2
  go_ret
  exact ⟨rfl, rfl⟩
set_option maxRecDepth 20000 in
set_option maxHeartbeats 3200000 in
theorem freeIn_any (g f t : Nat) (o : Int) (S : Bool → Nat → Nat) (w : World) (h : CoachAt w g S) (hf : f ≤ t) (ht : t ≤ 7) :
    Calls Tryz.prog 46 #[.pointer (some ⟨g, 0, none⟩), .iface 137 (.agg #[.int .u64 (legs f t)]), .int .i64 o] w (OnlyB ((0 ≤ o ∧ o < 4) ∧ S true o.toNat &&& legs f t = 0) w) := by
  have H := Lib.hid h
  clear h
  by_cases h0 : 0 ≤ o
  rotate_left
  · have d0 : decide (0 ≤ o) = false := by simpa using h0
    have HN := Lib.hid h0
    clear h0
    go_enter Tryz.func46, Tryz.ntmps46
    go_wp2_with fail
    refine (seatsIn_any g _ w).mono ?_
    rintro e w2 ⟨rfl, rfl⟩
    go_wp2_with fail
    go_quiet (fail)
    go_wp2_with fail
    go_ret
    exact onlyB_false (fun hh => by have := HN.out; omega) (bl_drewN (Below.refl _ _) _)
  by_cases h1 : o < 4
  rotate_left
  · have d0 : decide (o < 4) = false := by simpa using h1
    have HN := Lib.hid h1
    clear h1
    go_enter Tryz.func46, Tryz.ntmps46
    go_wp2_with fail
    refine (seatsIn_any g _ w).mono ?_
    rintro e w2 ⟨rfl, rfl⟩
    go_wp2_with fail
    go_quiet (fail)
    go_wp2_with fail
    go_ret
    exact onlyB_false (fun hh => by have := HN.out; omega) (bl_drewN (Below.refl _ _) _)
  obtain ⟨s, rfl⟩ : ∃ s : Nat, o = s := ⟨o.toNat, by omega⟩
  obtain ⟨hc, hS⟩ := H.out.2.2 true s (by simp [capOf]; omega)
  have HC := Lib.hid (fun (W : World) (hW : Below w.heap.size w W) => ((H.out.below hW).2.2 true s (by simp [capOf]; omega)).1)
  have HL := Lib.hid (legs_lt f t ht)
  have HK := Lib.hid hS
  have e0 : ((s : Int).toNat) = s := rfl
  rw [e0]
  simp only [baseOf, if_true, Nat.zero_add] at hc HC
  clear hS e0 hf ht
  generalize S true s = q at *
  generalize legs f t = l at *
  have i0 : (0 : Int) ≤ (s : Int) := by omega
  have hr : (0 ≤ (s : Int) ∧ (s : Int) < 4) := ⟨h0, h1⟩
  have HR := Lib.hid hr
  clear hr
  have HBd := Lib.hid (below_drew (Below.refl w.heap.size w))
  by_cases hm : q &&& l = 0
  · have HM := Lib.hid (show ¬ (q &&& l ≠ 0) from fun h => h hm)
    have HM2 := Lib.hid hm
    clear hm H
    go_enter Tryz.func46, Tryz.ntmps46
    go_wp2_with fail
    refine (seatsIn_any g _ w).mono ?_
    rintro e w2 ⟨rfl, rfl⟩
    go_wp2_with fail
    go_region_held3 (fun w' => w'.cell? ⟨g, s, none⟩ = some (.int .u64 (q : Int))) (first | exact hc | exact HC3.out | go_keep)
      (first | (go_at_call 246; refine (inLegs_any _ _).mono ?_; rintro e w3 ⟨rfl, hb3⟩; have HB3 := Lib.hid (below_trans HBd.out hb3); have HC3 := Lib.hid (HC.out _ HB3.out); clear hb3) | (go_at_call 83; (with_reducible_and_instances refine (meets_any q l _ HK.out HL.out).mono ?_); intro e w4 hp; obtain ⟨rfl, rfl⟩ := hp.no HM.out; clear hp) | fail)
    go_wp2_with fail
    go_ret
    exact onlyB_true ⟨HR.out, HM2.out⟩ HB3.out
  · have HM := Lib.hid (show q &&& l ≠ 0 from hm)
    clear hm H
    go_enter Tryz.func46, Tryz.ntmps46
    go_wp2_with fail
    refine (seatsIn_any g _ w).mono ?_
    rintro e w2 ⟨rfl, rfl⟩
    go_wp2_with fail
    go_region_held3 (fun w' => w'.cell? ⟨g, s, none⟩ = some (.int .u64 (q : Int))) (first | exact hc | exact HC3.out | go_keep)
      (first | (go_at_call 246; refine (inLegs_any _ _).mono ?_; rintro e w3 ⟨rfl, hb3⟩; have HB3 := Lib.hid (below_trans HBd.out hb3); have HC3 := Lib.hid (HC.out _ HB3.out); clear hb3) | (go_at_call 83; (with_reducible_and_instances refine (meets_any q l _ HK.out HL.out).mono ?_); intro e w4 hp; obtain ⟨rfl, rfl⟩ := hp.yes HM.out; clear hp) | fail)
    go_wp2_with fail
    go_ret
    exact onlyB_false (fun hh => HM.out hh.2) HB3.out

set_option maxRecDepth 20000 in
set_option maxHeartbeats 3200000 in
theorem takeIn_any (g f t s : Nat) (S : Bool → Nat → Nat) (w : World) (h : CoachAt w g S) (hf : f ≤ t) (ht : t ≤ 7) (hs : s < 4) :
    Calls Tryz.prog 47 #[.pointer (some ⟨g, 0, none⟩), .iface 137 (.agg #[.int .u64 (legs f t)]), .int .i64 s] w (Took w g (takeS S true s (legs f t))) := by
  obtain ⟨hc, hS⟩ := h.2.2 true s (by simp [capOf]; omega)
  have HC := Lib.hid (fun (W : World) (hW : Below w.heap.size w W) => ((h.below hW).2.2 true s (by simp [capOf]; omega)).1)
  have HF := Lib.hid (fun (W : World) (hW : Below w.heap.size w W) => (h.below hW).2.1 (s))
  have HL := Lib.hid (legs_lt f t ht)
  have HK := Lib.hid hS
  have HT := Lib.hid (fun (W : World) (hW : Below w.heap.size w W) => coach_take h hW true s (legs f t) (by simp [capOf]; omega) HL.out)
  simp only [baseOf, if_true, Nat.zero_add] at hc HC HT
  clear hS hf ht h
  generalize takeS S true s (legs f t) = S' at *
  generalize S true s = q at *
  generalize legs f t = l at *
  have i0 : (0 : Int) ≤ (s : Int) := by omega
  have i1 : (s : Int) < 4 := by omega
  have HBd := Lib.hid (below_drew (Below.refl w.heap.size w))
  go_enter Tryz.func47, Tryz.ntmps47
  go_wp2_with fail
  refine (seatsIn_any g _ w).mono ?_
  rintro e w2 ⟨rfl, rfl⟩
  go_wp2_with fail
  go_region_with (first | (go_at_call 246; refine (inLegs_any _ _).mono ?_; rintro e w3 ⟨rfl, hb3⟩; have HB3 := Lib.hid (below_trans HBd.out hb3); have hc3 := HC.out _ HB3.out; have hf3 := HF.out _ HB3.out; clear hb3) | (go_at_call 84; (with_reducible_and_instances refine (with_any q l _ HK.out HL.out).mono ?_); rintro e w4 ⟨rfl, rfl⟩) | fail)
  all_goals
    go_wp2_with fail
    go_end0
    exact ⟨rfl, HT.out _ HB3.out⟩

def tickOut (v : Int) : Value := .iface 138 (.agg #[.int .u64 v])
set_option maxRecDepth 20000 in
set_option maxHeartbeats 800000 in
theorem seatsOut_any (g : Nat) (v : Int) (w : World) :
    Calls Tryz.prog 82 #[.pointer (some ⟨g, 0, none⟩), .iface 138 (.agg #[.int .u64 v])] w (Same (.slice (some ⟨g, 4, none⟩) 6 6) w) := by
  go_enter Tryz.func82, Tryz.ntmps82
  go_wp2
  go_ret
  exact ⟨rfl, rfl⟩
set_option maxRecDepth 20000 in
set_option maxHeartbeats 800000 in
theorem seatsOfOut_any (v : Int) (w : World) :
    Calls Tryz.prog 45 #[.iface 138 (.agg #[.int .u64 v])] w (Same (.int .i64 6) w) := by
  go_enter Tryz.func45, Tryz.ntmps45
  go_wp2
  go_ret
  exact ⟨rfl, rfl⟩
set_option maxRecDepth 20000 in
set_option maxHeartbeats 3200000 in
theorem freeOut_any (g f t : Nat) (o : Int) (S : Bool → Nat → Nat) (w : World) (h : CoachAt w g S) (hf : f ≤ t) (ht : t ≤ 7) :
    Calls Tryz.prog 46 #[.pointer (some ⟨g, 0, none⟩), .iface 138 (.agg #[.int .u64 (legs f t)]), .int .i64 o] w (OnlyB ((0 ≤ o ∧ o < 6) ∧ S false o.toNat &&& legs f t = 0) w) := by
  have H := Lib.hid h
  clear h
  by_cases h0 : 0 ≤ o
  rotate_left
  · have d0 : decide (0 ≤ o) = false := by simpa using h0
    have HN := Lib.hid h0
    clear h0
    go_enter Tryz.func46, Tryz.ntmps46
    go_wp2_with fail
    refine (seatsOut_any g _ w).mono ?_
    rintro e w2 ⟨rfl, rfl⟩
    go_wp2_with fail
    go_quiet (fail)
    go_wp2_with fail
    go_ret
    exact onlyB_false (fun hh => by have := HN.out; omega) (bl_drewN (Below.refl _ _) _)
  by_cases h1 : o < 6
  rotate_left
  · have d0 : decide (o < 6) = false := by simpa using h1
    have HN := Lib.hid h1
    clear h1
    go_enter Tryz.func46, Tryz.ntmps46
    go_wp2_with fail
    refine (seatsOut_any g _ w).mono ?_
    rintro e w2 ⟨rfl, rfl⟩
    go_wp2_with fail
    go_quiet (fail)
    go_wp2_with fail
    go_ret
    exact onlyB_false (fun hh => by have := HN.out; omega) (bl_drewN (Below.refl _ _) _)
  obtain ⟨s, rfl⟩ : ∃ s : Nat, o = s := ⟨o.toNat, by omega⟩
  obtain ⟨hc, hS⟩ := H.out.2.2 false s (by simp [capOf]; omega)
  have HC := Lib.hid (fun (W : World) (hW : Below w.heap.size w W) => ((H.out.below hW).2.2 false s (by simp [capOf]; omega)).1)
  have HL := Lib.hid (legs_lt f t ht)
  have HK := Lib.hid hS
  have e0 : ((s : Int).toNat) = s := rfl
  rw [e0]
  simp only [baseOf, Bool.false_eq_true, if_false] at hc HC
  clear hS e0 hf ht
  generalize S false s = q at *
  generalize legs f t = l at *
  have i0 : (0 : Int) ≤ (s : Int) := by omega
  have hr : (0 ≤ (s : Int) ∧ (s : Int) < 6) := ⟨h0, h1⟩
  have HR := Lib.hid hr
  clear hr
  have HBd := Lib.hid (below_drew (Below.refl w.heap.size w))
  by_cases hm : q &&& l = 0
  · have HM := Lib.hid (show ¬ (q &&& l ≠ 0) from fun h => h hm)
    have HM2 := Lib.hid hm
    clear hm H
    go_enter Tryz.func46, Tryz.ntmps46
    go_wp2_with fail
    refine (seatsOut_any g _ w).mono ?_
    rintro e w2 ⟨rfl, rfl⟩
    go_wp2_with fail
    go_region_held3 (fun w' => w'.cell? ⟨g, 4 + s, none⟩ = some (.int .u64 (q : Int))) (first | exact hc | exact HC3.out | go_keep)
      (first | (go_at_call 247; refine (outLegs_any _ _).mono ?_; rintro e w3 ⟨rfl, hb3⟩; have HB3 := Lib.hid (below_trans HBd.out hb3); have HC3 := Lib.hid (HC.out _ HB3.out); clear hb3) | (go_at_call 83; (with_reducible_and_instances refine (meets_any q l _ HK.out HL.out).mono ?_); intro e w4 hp; obtain ⟨rfl, rfl⟩ := hp.no HM.out; clear hp) | fail)
    go_wp2_with fail
    go_ret
    exact onlyB_true ⟨HR.out, HM2.out⟩ HB3.out
  · have HM := Lib.hid (show q &&& l ≠ 0 from hm)
    clear hm H
    go_enter Tryz.func46, Tryz.ntmps46
    go_wp2_with fail
    refine (seatsOut_any g _ w).mono ?_
    rintro e w2 ⟨rfl, rfl⟩
    go_wp2_with fail
    go_region_held3 (fun w' => w'.cell? ⟨g, 4 + s, none⟩ = some (.int .u64 (q : Int))) (first | exact hc | exact HC3.out | go_keep)
      (first | (go_at_call 247; refine (outLegs_any _ _).mono ?_; rintro e w3 ⟨rfl, hb3⟩; have HB3 := Lib.hid (below_trans HBd.out hb3); have HC3 := Lib.hid (HC.out _ HB3.out); clear hb3) | (go_at_call 83; (with_reducible_and_instances refine (meets_any q l _ HK.out HL.out).mono ?_); intro e w4 hp; obtain ⟨rfl, rfl⟩ := hp.yes HM.out; clear hp) | fail)
    go_wp2_with fail
    go_ret
    exact onlyB_false (fun hh => HM.out hh.2) HB3.out

set_option maxRecDepth 20000 in
set_option maxHeartbeats 3200000 in
theorem takeOut_any (g f t s : Nat) (S : Bool → Nat → Nat) (w : World) (h : CoachAt w g S) (hf : f ≤ t) (ht : t ≤ 7) (hs : s < 6) :
    Calls Tryz.prog 47 #[.pointer (some ⟨g, 0, none⟩), .iface 138 (.agg #[.int .u64 (legs f t)]), .int .i64 s] w (Took w g (takeS S false s (legs f t))) := by
  obtain ⟨hc, hS⟩ := h.2.2 false s (by simp [capOf]; omega)
  have HC := Lib.hid (fun (W : World) (hW : Below w.heap.size w W) => ((h.below hW).2.2 false s (by simp [capOf]; omega)).1)
  have HF := Lib.hid (fun (W : World) (hW : Below w.heap.size w W) => (h.below hW).2.1 (4 + s))
  have HL := Lib.hid (legs_lt f t ht)
  have HK := Lib.hid hS
  have HT := Lib.hid (fun (W : World) (hW : Below w.heap.size w W) => coach_take h hW false s (legs f t) (by simp [capOf]; omega) HL.out)
  simp only [baseOf, Bool.false_eq_true, if_false] at hc HC HT
  clear hS hf ht h
  generalize takeS S false s (legs f t) = S' at *
  generalize S false s = q at *
  generalize legs f t = l at *
  have i0 : (0 : Int) ≤ (s : Int) := by omega
  have i1 : (s : Int) < 6 := by omega
  have HBd := Lib.hid (below_drew (Below.refl w.heap.size w))
  go_enter Tryz.func47, Tryz.ntmps47
  go_wp2_with fail
  refine (seatsOut_any g _ w).mono ?_
  rintro e w2 ⟨rfl, rfl⟩
  go_wp2_with fail
  go_region_with (first | (go_at_call 247; refine (outLegs_any _ _).mono ?_; rintro e w3 ⟨rfl, hb3⟩; have HB3 := Lib.hid (below_trans HBd.out hb3); have hc3 := HC.out _ HB3.out; have hf3 := HF.out _ HB3.out; clear hb3) | (go_at_call 84; (with_reducible_and_instances refine (with_any q l _ HK.out HL.out).mono ?_); rintro e w4 ⟨rfl, rfl⟩) | fail)
  all_goals
    go_wp2_with fail
    go_end0
    exact ⟨rfl, HT.out _ HB3.out⟩
end Go.Proofs.YtgjllminidlolaaGreatDoor
