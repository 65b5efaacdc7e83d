/- Contracts: okLines, spaced and endLine of the laws. -/
import Derived.Test.YtgjllminidlolaaGreatDoorEWalkL
set_option linter.unusedVariables false
namespace Go.Proofs.YtgjllminidlolaaGreatDoor
open Go.RowKit

theorem okText_len (j : Nat) : (textOf (List.replicate j okL)).length = 3 * j := by
  induction j with
  | zero => rfl
  | succ j ih =>
    rw [text_ok, List.length_append, ih]
    simp
    omega
set_option maxRecDepth 20000 in
set_option maxHeartbeats 1600000 in
theorem okLines_any (n : Nat) (w : World) (hn : n ≤ 100) :
    Calls Tryz.prog 20 #[.int .i64 n] w (Only (.string (bs (textOf (List.replicate n okL)))) w) := by
  go_enter Tryz.func20, Tryz.ntmps20
  go_wp2_with fail
  go_loop [3, 4] (fun s i => ∃ j : Nat, j ≤ n ∧ i = .int .i64 j ∧ s = .string (bs (textOf (List.replicate j okL)))) (fun _ i => n - (intOf i).toNat)
  case atStart => exact ⟨0, by omega, rfl, rfl⟩
  case round =>
    obtain ⟨j, hj, rfl, rfl⟩ := hrel
    have hl := okText_len j
    have hadd : ∀ W, (Op.stringOp .add (bs (textOf (List.replicate j okL))) ⟨#[111, 107, 10]⟩).run Tryz.prog W = .ok (.string (bs (textOf (List.replicate (j + 1) okL)))) W := by
      rw [text_ok]
      exact add_lists _ [111, 107, 10] (by omega) (by simp)
    by_cases h : j < n
    · have i0 : (j : Int) < (n : Int) := by omega
      go_wp2_with fail
      go_round
      case rel => exact ⟨j + 1, by omega, by go_num, rfl⟩
      case measure => simp [intOf]; omega
    · have e : j = n := by omega
      subst e
      go_wp2_with fail
      go_ret
      exact ⟨rfl, Below.refl _ _⟩
theorem spaced_take {xs : List Int} {j : Nat} {x : Int} (h : xs[j]? = some x) : spacedL (xs.take (j + 1)) = if j = 0 then Lib.decDigits x.toNat else spacedL (xs.take j) ++ [32] ++ Lib.decDigits x.toNat := by
  rw [take_next h, spacedL_snoc]
  have hj := (List.getElem?_eq_some_iff.1 h).1
  by_cases e : j = 0
  · subst e
    simp
  · rw [if_neg e, if_neg (fun h0 => ?_), List.append_assoc]
    have := congrArg List.length h0
    rw [List.length_take, List.length_nil] at this
    omega
set_option maxRecDepth 20000 in
set_option maxHeartbeats 1600000 in
theorem spaced_any (A : Option Addr) (len c : Nat) (xs : List Int) (w : World) (h : SlE 1 encI w A len xs) (hn : len ≤ 100) (hx : ∀ x ∈ xs, 0 ≤ x ∧ x < 100) :
    Calls Tryz.prog 21 #[.slice A len c] w (Only (.string (bs (spacedL xs))) w) := by
  have H := Lib.hid h
  have HX := Lib.hid hx
  have HLEN := Lib.hid h.len
  clear h hx
  go_enter Tryz.func21, Tryz.ntmps21
  go_wp2_with fail
  go_loopw [3, 4] (fun s i wr => ∃ j : Nat, j ≤ len ∧ i = .int .i64 j ∧ s = .string (bs (spacedL (xs.take j))) ∧ Below w.heap.size w wr) (fun _ i _ => len - (intOf i).toNat)
  case atStart => exact ⟨0, by omega, rfl, rfl, Below.refl _ _⟩
  case round =>
    obtain ⟨j, hj, rfl, rfl, hb⟩ := hrel
    have HB := Lib.hid hb
    clear hb
    by_cases hjn : j < len
    · obtain ⟨b, off, x, rfl, hbl, hx, hd, g0⟩ := at1 (H.out.below HB.out) (Below.refl _ _) hjn
      have hxb := HX.out x (List.mem_of_getElem? hx)
      have ht := spaced_take hx
      have hl1 : (spacedL (xs.take j)).length ≤ 300 := by
        have := spaced_le (ns := xs.take j) (fun y hy => HX.out y (List.mem_of_mem_take hy))
        rw [List.length_take] at this
        omega
      have hl2 := decDigits_len 2 x.toNat (by omega) (by omega)
      obtain ⟨n, rfl⟩ : ∃ n : Nat, x = n := ⟨x.toNat, by omega⟩
      rw [Int.toNat_natCast] at ht hl2
      have HD := Lib.hid (fun W => digits_any n W (by omega))
      clear hd hx hxb
      by_cases h0 : j = 0
      · rw [if_pos h0] at ht
        have HT := Lib.hid ht
        have hadd : ∀ W, (Op.stringOp .add (bs (spacedL (xs.take j))) (bs (Lib.decDigits n))).run Tryz.prog W = .ok (.string (bs (Lib.decDigits n))) W := fun W => by
          rw [h0]
          exact add_lists [] _ (by simp) (by omega) W
        clear ht hl1 hl2
        have i1 : (j : Int) < (len : Int) := by omega
        have i2 : ¬ (0 : Int) < (j : Int) := by omega
        clear h0
        go_wp2_with fail
        refine (HD.out _).mono ?_
        rintro e w2 ⟨rfl, hb2⟩
        have HB2 := Lib.hid (below_trans HB.out hb2)
        clear hb2
        go_wp2_with fail
        go_roundw
        case rel => exact ⟨j + 1, by omega, by go_num, by rw [HT.out], HB2.out⟩
        case measure => simp [intOf]; omega
      · rw [if_neg h0] at ht
        have HT := Lib.hid ht
        have a1 : ∀ W, (Op.stringOp .add (bs (spacedL (xs.take j))) ⟨#[32]⟩).run Tryz.prog W = .ok (.string (bs (spacedL (xs.take j) ++ [32]))) W := add_lists _ [32] (by omega) (by simp)
        have a2 : ∀ W, (Op.stringOp .add (bs (spacedL (xs.take j) ++ [32])) (bs (Lib.decDigits n))).run Tryz.prog W = .ok (.string (bs (spacedL (xs.take j) ++ [32] ++ Lib.decDigits n))) W := add_lists _ _ (by rw [List.length_append, List.length_singleton]; omega) (by omega)
        clear ht hl1 hl2
        have i1 : (j : Int) < (len : Int) := by omega
        have i2 : (0 : Int) < (j : Int) := by omega
        go_wp2_with fail
        refine (HD.out _).mono ?_
        rintro e w2 ⟨rfl, hb2⟩
        have HB2 := Lib.hid (below_trans HB.out hb2)
        clear hb2
        go_wp2_with fail
        go_roundw
        case rel => exact ⟨j + 1, by omega, by go_num, by rw [HT.out, List.append_assoc]; rfl, HB2.out⟩
        case measure => simp [intOf]; omega
    · have e : j = len := by omega
      subst e
      go_wp2_with fail
      go_ret
      refine ⟨?_, HB.out⟩
      rw [List.take_of_length_le (by have := HLEN.out; omega)]
      rfl
set_option maxRecDepth 20000 in
set_option maxHeartbeats 1600000 in
theorem endLine_any (a b c : Nat) (w : World) (ha : a < 100) (hb : b < 100) (hc : c < 100) :
    Calls Tryz.prog 22 #[.int .i64 a, .int .i64 b, .int .i64 c] w (Only (.string (bs (endL a b c ++ [10]))) w) := by
  have la := decDigits_len 2 a (by omega) (by omega)
  have lb := decDigits_len 2 b (by omega) (by omega)
  have lc := decDigits_len 2 c (by omega) (by omega)
  have a1 : ∀ W, (Op.stringOp .add ⟨#[114, 111, 97, 100, 115, 32]⟩ (bs (Lib.decDigits a))).run Tryz.prog W = .ok (.string (bs ([114, 111, 97, 100, 115, 32] ++ Lib.decDigits a))) W := add_lists [114, 111, 97, 100, 115, 32] _ (by simp) (by omega)
  have a2 : ∀ W, (Op.stringOp .add (bs ([114, 111, 97, 100, 115, 32] ++ Lib.decDigits a)) ⟨#[32, 99, 111, 97, 99, 104, 101, 115, 32]⟩).run Tryz.prog W = .ok (.string (bs ([114, 111, 97, 100, 115, 32] ++ Lib.decDigits a ++ [32, 99, 111, 97, 99, 104, 101, 115, 32]))) W := add_lists _ [32, 99, 111, 97, 99, 104, 101, 115, 32] (by simp; omega) (by simp)
  have a3 : ∀ W, (Op.stringOp .add (bs ([114, 111, 97, 100, 115, 32] ++ Lib.decDigits a ++ [32, 99, 111, 97, 99, 104, 101, 115, 32])) (bs (Lib.decDigits b))).run Tryz.prog W = .ok (.string (bs ([114, 111, 97, 100, 115, 32] ++ Lib.decDigits a ++ [32, 99, 111, 97, 99, 104, 101, 115, 32] ++ Lib.decDigits b))) W := add_lists _ _ (by simp; omega) (by omega)
  have a4 : ∀ W, (Op.stringOp .add (bs ([114, 111, 97, 100, 115, 32] ++ Lib.decDigits a ++ [32, 99, 111, 97, 99, 104, 101, 115, 32] ++ Lib.decDigits b)) ⟨#[32, 98, 111, 111, 107, 105, 110, 103, 115, 32]⟩).run Tryz.prog W = .ok (.string (bs ([114, 111, 97, 100, 115, 32] ++ Lib.decDigits a ++ [32, 99, 111, 97, 99, 104, 101, 115, 32] ++ Lib.decDigits b ++ [32, 98, 111, 111, 107, 105, 110, 103, 115, 32]))) W := add_lists _ [32, 98, 111, 111, 107, 105, 110, 103, 115, 32] (by simp; omega) (by simp)
  have a5 : ∀ W, (Op.stringOp .add (bs ([114, 111, 97, 100, 115, 32] ++ Lib.decDigits a ++ [32, 99, 111, 97, 99, 104, 101, 115, 32] ++ Lib.decDigits b ++ [32, 98, 111, 111, 107, 105, 110, 103, 115, 32])) (bs (Lib.decDigits c))).run Tryz.prog W = .ok (.string (bs (endL a b c))) W := add_lists _ _ (by simp; omega) (by omega)
  have a6 : ∀ W, (Op.stringOp .add (bs (endL a b c)) ⟨#[10]⟩).run Tryz.prog W = .ok (.string (bs (endL a b c ++ [10]))) W := add_lists _ [10] (by have := endL_len a b c ha hb hc; omega) (by simp)
  have K1 := Lib.hid (fun W => digits_any a W (by omega))
  have K2 := Lib.hid (fun W => digits_any b W (by omega))
  have K3 := Lib.hid (fun W => digits_any c W (by omega))
  clear la lb lc
  generalize bs (endL a b c ++ [10]) = T6 at *
  generalize bs (endL a b c) = T5 at *
  generalize bs ([114, 111, 97, 100, 115, 32] ++ Lib.decDigits a ++ [32, 99, 111, 97, 99, 104, 101, 115, 32] ++ Lib.decDigits b ++ [32, 98, 111, 111, 107, 105, 110, 103, 115, 32]) = T4 at *
  generalize bs ([114, 111, 97, 100, 115, 32] ++ Lib.decDigits a ++ [32, 99, 111, 97, 99, 104, 101, 115, 32] ++ Lib.decDigits b) = T3 at *
  generalize bs ([114, 111, 97, 100, 115, 32] ++ Lib.decDigits a ++ [32, 99, 111, 97, 99, 104, 101, 115, 32]) = T2 at *
  generalize bs ([114, 111, 97, 100, 115, 32] ++ Lib.decDigits a) = T1 at *
  generalize bs (Lib.decDigits a) = D1 at *
  generalize bs (Lib.decDigits b) = D2 at *
  generalize bs (Lib.decDigits c) = D3 at *
  go_enter Tryz.func22, Tryz.ntmps22
  go_wp2_with fail
  refine (K1.out _).mono ?_
  rintro e w1 ⟨rfl, hb1⟩
  have HB1 := Lib.hid hb1
  clear hb1
  go_wp2_with fail
  refine (K2.out _).mono ?_
  rintro e w2 ⟨rfl, hb2⟩
  have HB2 := Lib.hid (below_trans HB1.out hb2)
  clear hb2
  go_wp2_with fail
  refine (K3.out _).mono ?_
  rintro e w3 ⟨rfl, hb3⟩
  have HB3 := Lib.hid (below_trans HB2.out hb3)
  clear hb3
  go_wp2_with fail
  go_ret
  exact ⟨rfl, HB3.out⟩
end Go.Proofs.YtgjllminidlolaaGreatDoor
