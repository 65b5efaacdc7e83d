/- Contracts: parse. -/
import Derived.Test.YtgjllminidlolaaGreatDoorEWalkB
import Derived.Test.YtgjllminidlolaaGreatDoorEWalkC
import Derived.Lib.SplitLaws
set_option linter.unusedVariables false
namespace Go.Proofs.YtgjllminidlolaaGreatDoor
open Go.RowKit

/-- An element of a slice of strings, in a later world. -/
theorem atS {w wr : World} {A : Option Addr} {n : Nat} {xs : List ByteArray} (h : SlE 1 encS w A n xs) (hb : Below w.heap.size w wr) {j : Nat} (hj : j < n) :
    ∃ b off x, A = some ⟨b, off, none⟩ ∧ b < wr.heap.size ∧ xs[j]? = some x ∧ xs.drop j = x :: xs.drop (j + 1) ∧ wr.cell? ⟨b, off + j, none⟩ = some (.string x) := by
  obtain ⟨b, off, x, hA, hlt, hx, hd, hc⟩ := (h.below hb).at_ hj
  exact ⟨b, off, x, hA, hlt, hx, hd, by have := hc 0 _ rfl; simpa using this⟩
/-- strings.Split at one byte. -/
theorem split_any (c : UInt8) (s : ByteArray) (W : World) (hm : ∃ m, W.cell? ⟨0, 0, none⟩ = some (.int .i64 m)) (hs : s.size ≤ 1000) :
    Calls Tryz.prog 35 #[.string s, .string (bs [c])] W (fun e w' => ∃ g n, n = (cutL c s.data.toList).length ∧ e = .returned (.slice (some ⟨g, 0, none⟩) n n) ∧ SlE 1 encS w' (some ⟨g, 0, none⟩) n ((cutL c s.data.toList).map bs) ∧
      Below W.heap.size W w' ∧ W.heap.size ≤ g ∧ g < w'.heap.size ∧ n ≤ 1001) := by
  obtain ⟨m, hm⟩ := hm
  refine (Tryz.strings_Split s (bs [c]) m W (by omega) hm (by rw [bs_size]; simp)).mono ?_
  rintro e w' ⟨rfl, rfl⟩
  have h2 := Lib.countB_le (bs [c]) (by rw [bs_size]; simp) s.size s (Nat.le_refl _)
  have h3 := countB_cut c s
  rw [splitB_cut, countB_cut]
  refine ⟨W.heap.size, _, rfl, rfl, slE_new W _ encS_len _ _ (by rw [flat_encS]) ?_ (by rw [List.length_map]) rfl, below_alloc (Below.refl _ _) _, Nat.le_refl _, by show _ < (W.heap.push _).size; rw [Array.size_push]; omega, by omega⟩
  rw [List.length_map]
  unfold maxLen
  omega
/-- Whether a command takes so many words. -/
def Fits (n : Int) (m : Nat) : Prop := (m : Int) = n ∨ (n < 0 ∧ 0 < m ∧ m % 3 = 0)
/-- A line is no known one. -/
def ParseNo (m : Nat) (w : World) (e : Ending) (w' : World) : Prop :=
  e = .panicked [{ v := .iface 109 (.agg #[.int .i64 m]), recovered := false }] ∧ Below w.heap.size w w'

set_option maxRecDepth 20000 in
set_option maxHeartbeats 3200000 in
theorem parse_none (s : ByteArray) (wd : List UInt8) (ws : List (List UInt8)) (w : World) (hm : Env w) (hs : s.size ≤ 1000) (hc : cutL 32 s.data.toList = wd :: ws) (hn : cmdOf (bs wd) = none) :
    Calls Tryz.prog 67 #[.string s] w (ParseNo (ws.length + 1) w) := by
  have HM := Lib.hid hm
  have HN := Lib.hid hn
  have HC := Lib.hid hc
  have HB0 := Lib.hid (below_alloc (Below.refl w.heap.size w) (.cells #[.int .i64 0, .nilFunc] 113))
  clear hm hn hc
  go_enter Tryz.func67, Tryz.ntmps67
  go_wp2_with fail
  refine (split_any 32 s _ (HM.out.below HB0.out HM.out.1) hs).mono ?_
  rintro e w2 ⟨g, n, hn, rfl, hsl, hb2, -, hg, hn1⟩
  rw [HC.out] at hn hsl
  obtain ⟨b, off, x, hA, hbl, hx, -, g0⟩ := atS hsl (Below.refl _ _) (show 0 < n by rw [hn]; simp)
  injection hA with hA
  injection hA with hA1 hA2
  subst hA1 hA2
  simp only [List.map_cons, List.getElem?_cons_zero, Option.some.injEq] at hx
  subst hx
  rw [Nat.add_zero] at g0
  have hn0 : 0 < n := by rw [hn]; simp
  have HB2 := Lib.hid (below_trans HB0.out hb2)
  have HNN := Lib.hid (show n = ws.length + 1 by rw [hn]; simp)
  clear hb2 hsl hn hbl HB0
  go_wp2_with fail
  refine (commandOf_any (bs wd) w2).mono ?_
  rintro e w3 ⟨hb3, he⟩
  rw [HN.out] at he
  subst he
  have HB3 := Lib.hid (below_trans HB2.out hb3)
  clear hb3 HB2
  have HB4 := fun o => Lib.hid (below_alloc HB3.out o)
  clear HB3
  obtain ⟨m, rfl⟩ : ∃ m : Nat, n = m + 1 := ⟨n - 1, by omega⟩
  have e1 : ((m + 1 : Nat) : Int) - 1 = (m : Int) := by omega
  by_cases h0 : m = 0
  · subst h0
    go_wp2_with fail
    refine ⟨rfl, ?_, (HB4 _).out⟩
    have hh := HNN.out
    rw [show ((ws.length + 1 : Nat) : Int) = 1 by omega]
  · have i0 : ¬ (m : Int) = 0 := by omega
    go_wp2_with fail
    refine ⟨rfl, ?_, (HB4 _).out⟩
    have hh := HNN.out
    rw [show ((ws.length + 1 : Nat) : Int) = (m : Int) + 1 by omega]
set_option maxRecDepth 20000 in
set_option maxHeartbeats 3200000 in
theorem parse_unfit (s : ByteArray) (wd : List UInt8) (ws : List (List UInt8)) (nw : Int) (k : Nat) (w : World) (hm : Env w) (hs : s.size ≤ 1000) (hc : cutL 32 s.data.toList = wd :: ws) (hn : cmdOf (bs wd) = some (nw, k)) (hf : ¬ Fits nw ws.length) :
    Calls Tryz.prog 67 #[.string s] w (ParseNo (ws.length + 1) w) := by
  have HM := Lib.hid hm
  have HN := Lib.hid hn
  have HC := Lib.hid hc
  have HB0 := Lib.hid (below_alloc (Below.refl w.heap.size w) (.cells #[.int .i64 0, .nilFunc] 113))
  obtain ⟨f1, f2⟩ := not_or.1 hf
  have HF2 := Lib.hid f2
  clear hm hn hc hf f2
  go_enter Tryz.func67, Tryz.ntmps67
  go_wp2_with fail
  refine (split_any 32 s _ (HM.out.below HB0.out HM.out.1) hs).mono ?_
  rintro e w2 ⟨g, n, hn, rfl, hsl, hb2, -, hg, hn1⟩
  rw [HC.out] at hn hsl
  obtain ⟨b, off, x, hA, hbl, hx, -, g0⟩ := atS hsl (Below.refl _ _) (show 0 < n by rw [hn]; simp)
  injection hA with hA
  injection hA with hA1 hA2
  subst hA1 hA2
  simp only [List.map_cons, List.getElem?_cons_zero, Option.some.injEq] at hx
  subst hx
  rw [Nat.add_zero] at g0
  obtain ⟨m, rfl⟩ : ∃ m : Nat, n = m + 1 := ⟨n - 1, by rw [hn]; simp⟩
  obtain rfl : m = ws.length := by simpa using hn
  generalize ws.length = m at *
  have HB2 := Lib.hid (below_trans HB0.out hb2)
  clear hb2 hsl hn hbl HB0
  go_wp2_with fail
  refine (commandOf_any (bs wd) w2).mono ?_
  rintro e w3 ⟨hb3, he⟩
  rw [HN.out] at he
  subst he
  have HB3 := Lib.hid (below_trans HB2.out hb3)
  clear hb3 HB2
  have HB4 := fun o => Lib.hid (below_alloc HB3.out o)
  clear HB3
  have e1 : ((m + 1 : Nat) : Int) - 1 = (m : Int) := by omega
  have fm : ((m : Int) == nw) = false := by simp [f1]
  by_cases hneg : nw < 0
  rotate_left
  · unfold cmdV
    go_wp2_with fail
    exact ⟨rfl, rfl, (HB4 _).out⟩
  by_cases hm0 : (0 : Int) < (m : Int)
  rotate_left
  · unfold cmdV
    go_wp2_with fail
    exact ⟨rfl, rfl, (HB4 _).out⟩
  have f3 : ((m : Int) % 3 == 0) = false := by
    have : ¬ (m : Int) % 3 = 0 := fun h => HF2.out ⟨hneg, by omega, by omega⟩
    simp only [beq_eq_false_iff_ne]
    exact this
  unfold cmdV
  go_wp2_with fail
  exact ⟨rfl, rfl, (HB4 _).out⟩
end Go.Proofs.YtgjllminidlolaaGreatDoor
