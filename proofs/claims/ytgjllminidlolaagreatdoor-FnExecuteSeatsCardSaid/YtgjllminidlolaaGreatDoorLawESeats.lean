/- Walk of FnExecuteSeats. -/
import Derived.Test.YtgjllminidlolaaGreatDoorSDrawA
import Derived.Test.YtgjllminidlolaaGreatDoorSWalkI
import Derived.Test.YtgjllminidlolaaGreatDoorSameI
import Derived.Test.YtgjllminidlolaaGreatDoorEWalkM
import Derived.Test.YtgjllminidlolaaGreatDoorEWalkN
import Derived.Deep.QuietTactic
import Derived.BigQuiet
import Derived.Deep.RegionWith
import Derived.Deep.Cut
set_option linter.unusedVariables false
namespace Go.Proofs.YtgjllminidlolaaGreatDoor
open Go.RowKit Go.MapKept

/-- The text of the first lines. -/
def seatText (xs : List B3) (j : Nat) : List UInt8 := textOf ((xs.take j).map lineB)
def wordL (z : Bool) : List UInt8 := kindL z ++ [32]
theorem seatText_next {xs : List B3} {j : Nat} {p : B3} (h : xs[j]? = some p) : seatText xs (j + 1) = seatText xs j ++ wordL p.c ++ Lib.decDigits p.a.toNat ++ [32] ++ Lib.decDigits p.b.toNat ++ [10] := by
  unfold seatText
  rw [take_next h, List.map_append, textOf_append]
  simp [textOf, lineB, wordL]
theorem seatText_all (xs : List B3) : seatText xs xs.length ++ [115, 101, 97, 116, 115, 10] = textOf (seatLines xs) := by
  unfold seatText seatLines
  rw [List.take_length, textOf_append]
  rfl
theorem seatText_len {n : Int} {xs : List B3} (h : BookOk n xs) (j : Nat) : (seatText xs j).length ≤ 192 := by
  have h1 := textOf_len 11 ((xs.take j).map lineB) (fun l hl => by
    obtain ⟨p, hp, rfl⟩ := List.mem_map.1 hl
    have := h.2.2.2.1 p (List.mem_of_mem_take hp)
    have := h.2.1
    unfold OkB at *
    exact lineB_len p (by omega) (by omega))
  have h2 := h.2.2.1
  rw [List.length_map, List.length_take] at h1
  unfold seatText
  omega

theorem wordL_len (z : Bool) : (wordL z).length ≤ 8 := by cases z <;> decide
theorem cells2_below {W W' : World} (hb : Below W.heap.size W W') {p q : Addr} {a b : Value} (h : W.cell? p = some a ∧ W.cell? q = some b) : W'.cell? p = some a ∧ W'.cell? q = some b := ⟨cell_below hb h.1, cell_below hb h.2⟩

set_option maxRecDepth 20000 in
set_option maxHeartbeats 6400000 in
theorem lawFnExecuteSeats_walk (A0 : Option Addr) (len0 cap0 : Nat) (xs0 : List Int) (w : World) (hm : Env w) (h0 : SlE 1 encU w A0 len0 xs0) (hb0 : Bytes xs0) (hc0 : len0 ≤ cap0) :
    Calls Tryz.prog 6 #[.slice A0 len0 cap0] w (Only (.bool true) w) := by
  have H0 := Lib.hid h0
  have HB0 := Lib.hid hb0
  have HM := Lib.hid hm
  clear h0 hb0 hm
  by_cases hbig : (len0 : Int) ≤ 1048576
  rotate_left
  · go_enter Tryz.func6, Tryz.ntmps6
    go_wp2_with fail
    go_ret
    exact ⟨rfl, Below.refl _ _⟩
  go_enter Tryz.func6, Tryz.ntmps6
  go_wp2_with fail
  refine (drawSeatingMake_any A0 len0 cap0 xs0 w H0.out HB0.out (by omega) hc0).mono ?_
  rintro e w1 ⟨n, v, xs, rfl, n0, n1, hl, hown, hb⟩
  clear H0 HB0
  obtain ⟨n, rfl⟩ : ∃ i : Nat, n = i := ⟨n.toNat, by omega⟩
  obtain ⟨A, c, rfl, -, hlc⟩ := hown.slc encB_len rfl
  generalize hlen : xs.length = len at *
  have HL := Lib.hid hlen
  have S1 := Lib.hid (sl_of_own_at encB_len hown hlen)
  have B1 := Lib.hid hb
  clear hown hb hlen
  by_cases hok : BookOk n xs
  rotate_left
  · have HN := Lib.hid hok
    clear hok
    go_wp2_with fail
    refine (implSeatingMake_no A n len c xs w1 S1.out (by omega) HN.out).mono ?_
    rintro e w2 ⟨v2, rfl, hown, hb⟩
    obtain ⟨A2, c2, rfl, -, hc2⟩ := hown.slc encI_len (n := 0) rfl
    have S2 := Lib.hid (S1.out.below hb)
    have B2 := Lib.hid (below_trans B1.out hb)
    have E2 := Lib.hid (sl_of_own_at encI_len hown rfl)
    clear hb S1 B1 hown
    go_wp2_with fail
    refine (specSeatingMake_no A n len c xs w2 S2.out (by omega) HN.out).mono ?_
    rintro e w3 ⟨v3, rfl, hown, hb⟩
    obtain ⟨A3, c3, rfl, -, hc3⟩ := hown.slc encI_len (n := 0) rfl
    have E3 := Lib.hid (E2.out.below hb)
    have B3 := Lib.hid (below_trans B2.out hb)
    have F3 := Lib.hid (sl_of_own_at encI_len hown rfl)
    clear hb S2 E2 B2 hown
    go_wp2_with fail
    refine (sameInts_yes A2 A3 0 c2 c3 [] w3 E3.out F3.out (by omega)).mono ?_
    rintro e w4 ⟨rfl, hb⟩
    have E4 := Lib.hid (E3.out.below hb)
    have F4 := Lib.hid (F3.out.below hb)
    have B4 := Lib.hid (below_trans B3.out hb)
    clear hb E3 F3 B3
    go_wp2_with fail
    refine (sameInts_yes A2 A3 0 c2 c3 [] w4 E4.out F4.out (by omega)).mono ?_
    rintro e w5 ⟨rfl, hb⟩
    have E5 := Lib.hid (E4.out.below hb)
    have F5 := Lib.hid (F4.out.below hb)
    have B5 := Lib.hid (below_trans B4.out hb)
    clear hb E4 F4 B4
    go_wp2_with fail
    go_ret
    exact ⟨rfl, B5.out⟩
  have HOK := Lib.hid hok
  have hn7 := hok.2.1
  have HPL := Lib.hid (show (plan xs n).length = len by rw [plan_len hok, HL.out])
  have HPX := Lib.hid (fun (W : World) (hn : n ≤ 5) (hm : Env W) => seat_execute xs n hok hn W hm)
  have HTL := Lib.hid (fun j => seatText_len hok j)
  have HSL := Lib.hid (seat_len hok)
  have HXB := Lib.hid (fun (x : Int) (hx : x ∈ plan xs n) => (show 0 ≤ x ∧ x < 100 by
    refine ⟨plan_nonneg hok x hx, ?_⟩
    obtain ⟨k, hk⟩ := List.getElem?_of_mem hx
    have hkl : k < xs.length := by
      have := (List.getElem?_eq_some_iff.1 hk).1
      rw [plan_len hok] at this
      exact this
    have h1 := (plan_all hok).2 k _ x (List.getElem?_eq_getElem hkl) hk
    have h2 := (taken_bd xs (xs[k]).a (xs[k]).c).2
    have h3 := hok.2.2.1
    omega))
  have HOB := Lib.hid (fun (p : B3) (hp : p ∈ xs) => (show 0 ≤ p.a ∧ p.a < 10 ∧ 0 ≤ p.b ∧ p.b < 10 by
    have := hok.2.2.2.1 p hp
    have := hok.2.1
    unfold OkB at *
    omega))
  have h16 := hok.2.2.1
  rw [HL.out] at h16
  generalize hpl : plan xs n = out at *
  have HPP := Lib.hid (fun (W : World) (h : SlE 3 encB W A len xs) => implSeatingMake_yes A n len c xs W h HOK.out)
  have HPQ := Lib.hid (fun (W : World) (h : SlE 3 encB W A len xs) => specSeatingMake_yes A n len c xs W h HOK.out)
  rw [hpl] at HPP HPQ
  clear hpl
  go_wp2_with fail
  refine (HPP.out w1 S1.out).mono ?_
  rintro e w2 ⟨v2, rfl, hown, hb⟩
  obtain ⟨A2, c2, rfl, -, hc2⟩ := hown.slc encI_len (n := len) HPL.out
  have S2 := Lib.hid (S1.out.below hb)
  have B2 := Lib.hid (below_trans B1.out hb)
  have X2 := Lib.hid (sl_of_own_at encI_len hown HPL.out)
  clear hb S1 B1 hown
  go_wp2_with fail
  refine (HPQ.out w2 S2.out).mono ?_
  rintro e w3 ⟨v3, rfl, hown, hb⟩
  obtain ⟨A3, c3, rfl, -, hc3⟩ := hown.slc encI_len (n := len) HPL.out
  have S3 := Lib.hid (S2.out.below hb)
  have X3 := Lib.hid (X2.out.below hb)
  have B3 := Lib.hid (below_trans B2.out hb)
  have Y3 := Lib.hid (sl_of_own_at encI_len hown HPL.out)
  clear hb S2 X2 B2 hown
  go_wp2_with fail
  refine (sameInts_yes A2 A3 len c2 c3 out w3 X3.out Y3.out (by omega)).mono ?_
  rintro e w4 ⟨rfl, hb⟩
  have S4 := Lib.hid (S3.out.below hb)
  have X4 := Lib.hid (X3.out.below hb)
  have B4 := Lib.hid (below_trans B3.out hb)
  clear hb S3 X3 Y3 B3
  by_cases h5 : n ≤ 5
  rotate_left
  · have d0 : (6 : Int) ≤ (n : Int) := by omega
    have d1 : ((len : Int) == (len : Int)) = true := by simp
    go_wp2_with fail
    go_ret
    exact ⟨rfl, B4.out⟩
  have i5 : ¬ (6 : Int) ≤ (n : Int) := by omega
  obtain ⟨W0, rfl⟩ : ∃ W0, W0 = w4 := ⟨_, rfl⟩
  go_wp2_with fail
  go_loopw [9, 10] (fun s i wr => ∃ j : Nat, j ≤ len ∧ i = .int .i64 j ∧ s = .string (bs (seatText xs j)) ∧ Below W0.heap.size W0 wr) (fun _ i _ => len - (intOf i).toNat)
  case atStart => exact ⟨0, by omega, rfl, rfl, Below.refl _ _⟩
  case round =>
    obtain ⟨j, hj, rfl, rfl, hbr⟩ := hrel
    have HR := Lib.hid hbr
    clear hbr
    by_cases hjl : j < len
    · obtain ⟨b, off, x, y, z, rfl, hbl, hx, hd, g0, g1, g2⟩ := atB S4.out HR.out hjl
      have hob := HOB.out _ (mem_at hx)
      dsimp only at hob
      have HTN := Lib.hid (seatText_next hx)
      dsimp only at HTN
      obtain ⟨x, rfl⟩ : ∃ i : Nat, x = i := ⟨x.toNat, by omega⟩
      obtain ⟨y, rfl⟩ : ∃ i : Nat, y = i := ⟨y.toNat, by omega⟩
      have hw1 := HTL.out j
      have hw2 := decDigits_len 1 x (by omega) (by omega)
      have hw3 := decDigits_len 1 y (by omega) (by omega)
      have HD1 := Lib.hid (fun W => digits_any x W (by omega))
      have HD2 := Lib.hid (fun W => digits_any y W (by omega))
      have HC0 := Lib.hid (And.intro g0 g1)
      clear hd hx hob
      cases z
      rotate_left
      · have a1 : ∀ W, (Op.stringOp .add (bs (seatText xs j)) ⟨#[105, 110, 115, 105, 100, 101, 32]⟩).run Tryz.prog W = .ok (.string (bs (seatText xs j ++ wordL true))) W := add_lists _ (wordL true) (by omega) (by decide)
        have a2 : ∀ W, (Op.stringOp .add (bs (seatText xs j ++ wordL true)) (bs (Lib.decDigits x))).run Tryz.prog W = .ok (.string (bs (seatText xs j ++ wordL true ++ Lib.decDigits x))) W := add_lists _ _ (by rw [List.length_append]; have := wordL_len true; omega) (by omega)
        have a3 : ∀ W, (Op.stringOp .add (bs (seatText xs j ++ wordL true ++ Lib.decDigits x)) ⟨#[32]⟩).run Tryz.prog W = .ok (.string (bs (seatText xs j ++ wordL true ++ Lib.decDigits x ++ [32]))) W := add_lists _ [32] (by rw [List.length_append, List.length_append]; have := wordL_len true; omega) (by simp)
        have a4 : ∀ W, (Op.stringOp .add (bs (seatText xs j ++ wordL true ++ Lib.decDigits x ++ [32])) (bs (Lib.decDigits y))).run Tryz.prog W = .ok (.string (bs (seatText xs j ++ wordL true ++ Lib.decDigits x ++ [32] ++ Lib.decDigits y))) W := add_lists _ _ (by rw [List.length_append, List.length_append, List.length_append, List.length_singleton]; have := wordL_len true; omega) (by omega)
        have a5 : ∀ W, (Op.stringOp .add (bs (seatText xs j ++ wordL true ++ Lib.decDigits x ++ [32] ++ Lib.decDigits y)) ⟨#[10]⟩).run Tryz.prog W = .ok (.string (bs (seatText xs (j + 1)))) W := fun W => by
          rw [HTN.out]
          dsimp only [Int.toNat_natCast]
          exact add_lists _ [10] (by rw [List.length_append, List.length_append, List.length_append, List.length_append, List.length_singleton]; have := wordL_len true; omega) (by simp) W
        clear hw1 hw2 hw3 HTN
        generalize hT5 : bs (seatText xs (j + 1)) = T5 at *
        have HT5 := Lib.hid hT5
        clear hT5
        generalize bs (seatText xs j ++ wordL true ++ Lib.decDigits x ++ [32] ++ Lib.decDigits y) = T4 at *
        generalize bs (seatText xs j ++ wordL true ++ Lib.decDigits x ++ [32]) = T3 at *
        generalize bs (seatText xs j ++ wordL true ++ Lib.decDigits x) = T2 at *
        generalize bs (seatText xs j ++ wordL true) = T1 at *
        generalize bs (seatText xs j) = T0 at *
        generalize bs (Lib.decDigits x) = D1 at *
        generalize bs (Lib.decDigits y) = D2 at *
        go_wp2_with fail
        go_region_held3 (fun w' => w'.cell? ⟨b, off + j * 3, none⟩ = some (.int .i64 x) ∧ w'.cell? ⟨b, off + j * 3 + 1, none⟩ = some (.int .i64 y))
          (first | exact HC0.out | exact CZ2.out | exact CZ3.out | fail)
          (first
            | (go_at_call 19; have HQ := HB2; (with_reducible_and_instances refine (HD2.out _).mono ?_); rintro e w3 ⟨rfl, hb3⟩; have HB3 := Lib.hid (below_trans HB2.out hb3); have CZ3 := Lib.hid (cells2_below hb3 CZ2.out); clear hb3)
            | (go_at_call 19; (with_reducible_and_instances refine (HD1.out _).mono ?_); rintro e w2 ⟨rfl, hb2⟩; have HB2 := Lib.hid (below_trans (below_drew HR.out) hb2); have CZ2 := Lib.hid (cells2_below hb2 HC0.out); clear hb2)
            | fail)
        go_wp2_with fail
        go_roundw
        case rel => exact ⟨j + 1, by omega, by go_num, by rw [HT5.out], HB3.out⟩
        case measure => simp [intOf]; omega
      · have a1 : ∀ W, (Op.stringOp .add (bs (seatText xs j)) ⟨#[111, 117, 116, 115, 105, 100, 101, 32]⟩).run Tryz.prog W = .ok (.string (bs (seatText xs j ++ wordL false))) W := add_lists _ (wordL false) (by omega) (by decide)
        have a2 : ∀ W, (Op.stringOp .add (bs (seatText xs j ++ wordL false)) (bs (Lib.decDigits x))).run Tryz.prog W = .ok (.string (bs (seatText xs j ++ wordL false ++ Lib.decDigits x))) W := add_lists _ _ (by rw [List.length_append]; have := wordL_len false; omega) (by omega)
        have a3 : ∀ W, (Op.stringOp .add (bs (seatText xs j ++ wordL false ++ Lib.decDigits x)) ⟨#[32]⟩).run Tryz.prog W = .ok (.string (bs (seatText xs j ++ wordL false ++ Lib.decDigits x ++ [32]))) W := add_lists _ [32] (by rw [List.length_append, List.length_append]; have := wordL_len false; omega) (by simp)
        have a4 : ∀ W, (Op.stringOp .add (bs (seatText xs j ++ wordL false ++ Lib.decDigits x ++ [32])) (bs (Lib.decDigits y))).run Tryz.prog W = .ok (.string (bs (seatText xs j ++ wordL false ++ Lib.decDigits x ++ [32] ++ Lib.decDigits y))) W := add_lists _ _ (by rw [List.length_append, List.length_append, List.length_append, List.length_singleton]; have := wordL_len false; omega) (by omega)
        have a5 : ∀ W, (Op.stringOp .add (bs (seatText xs j ++ wordL false ++ Lib.decDigits x ++ [32] ++ Lib.decDigits y)) ⟨#[10]⟩).run Tryz.prog W = .ok (.string (bs (seatText xs (j + 1)))) W := fun W => by
          rw [HTN.out]
          dsimp only [Int.toNat_natCast]
          exact add_lists _ [10] (by rw [List.length_append, List.length_append, List.length_append, List.length_append, List.length_singleton]; have := wordL_len false; omega) (by simp) W
        clear hw1 hw2 hw3 HTN
        generalize hT5 : bs (seatText xs (j + 1)) = T5 at *
        have HT5 := Lib.hid hT5
        clear hT5
        generalize bs (seatText xs j ++ wordL false ++ Lib.decDigits x ++ [32] ++ Lib.decDigits y) = T4 at *
        generalize bs (seatText xs j ++ wordL false ++ Lib.decDigits x ++ [32]) = T3 at *
        generalize bs (seatText xs j ++ wordL false ++ Lib.decDigits x) = T2 at *
        generalize bs (seatText xs j ++ wordL false) = T1 at *
        generalize bs (seatText xs j) = T0 at *
        generalize bs (Lib.decDigits x) = D1 at *
        generalize bs (Lib.decDigits y) = D2 at *
        go_wp2_with fail
        go_region_held3 (fun w' => w'.cell? ⟨b, off + j * 3, none⟩ = some (.int .i64 x) ∧ w'.cell? ⟨b, off + j * 3 + 1, none⟩ = some (.int .i64 y))
          (first | exact HC0.out | exact CZ2.out | exact CZ3.out | fail)
          (first
            | (go_at_call 19; have HQ := HB2; (with_reducible_and_instances refine (HD2.out _).mono ?_); rintro e w3 ⟨rfl, hb3⟩; have HB3 := Lib.hid (below_trans HB2.out hb3); have CZ3 := Lib.hid (cells2_below hb3 CZ2.out); clear hb3)
            | (go_at_call 19; (with_reducible_and_instances refine (HD1.out _).mono ?_); rintro e w2 ⟨rfl, hb2⟩; have HB2 := Lib.hid (below_trans (below_drew HR.out) hb2); have CZ2 := Lib.hid (cells2_below hb2 HC0.out); clear hb2)
            | fail)
        go_wp2_with fail
        go_roundw
        case rel => exact ⟨j + 1, by omega, by go_num, by rw [HT5.out], HB3.out⟩
        case measure => simp [intOf]; omega
    · obtain rfl : len = j := by omega
      have e0 := seatText_all xs
      rw [HL.out] at e0
      have hw1 := HTL.out len
      have hlo := okText_len len
      have hls := spaced_le HXB.out
      rw [HPL.out] at hls
      have hle := endL_len 0 0 len (by omega) (by omega) (by omega)
      have a1 : ∀ W, (Op.stringOp .add (bs (seatText xs len)) ⟨#[115, 101, 97, 116, 115, 10]⟩).run Tryz.prog W = .ok (.string (bs (textOf (seatLines xs)))) W := fun W => by
        rw [← e0]
        exact add_lists _ [115, 101, 97, 116, 115, 10] (by omega) (by simp) W
      have a2 : ∀ W, (Op.stringOp .add (bs (textOf (List.replicate len okL))) (bs (spacedL out))).run Tryz.prog W = .ok (.string (bs (textOf (List.replicate len okL) ++ spacedL out))) W := add_lists _ _ (by omega) (by omega)
      have a3 : ∀ W, (Op.stringOp .add (bs (textOf (List.replicate len okL) ++ spacedL out)) ⟨#[10]⟩).run Tryz.prog W = .ok (.string (bs (textOf (List.replicate len okL) ++ spacedL out ++ [10]))) W := add_lists _ [10] (by rw [List.length_append]; omega) (by simp)
      have a4 : ∀ W, (Op.stringOp .add (bs (textOf (List.replicate len okL) ++ spacedL out ++ [10])) (bs (endL 0 0 len ++ [10]))).run Tryz.prog W = .ok (.string (bs (seatOut len out))) W := add_lists _ _ (by rw [List.length_append, List.length_append, List.length_singleton]; omega) (by rw [List.length_append, List.length_singleton]; omega)
      have HE := Lib.hid (fun (W : World) (hW : Below w.heap.size w W) => HPX.out W h5 (HM.out.later hW))
      rw [HL.out] at HE
      have HKO := Lib.hid (fun W => okLines_any len W (by omega))
      have HKS := Lib.hid (fun (W : World) (h : SlE 1 encI W A2 len out) => spaced_any A2 len c2 out W h (by omega) HXB.out)
      have HKE : Hid (∀ W, Calls Tryz.prog 22 #[.int .i64 0, .int .i64 0, .int .i64 len] W (Only (.string (bs (endL 0 0 len ++ [10]))) W)) := Lib.hid (fun W => endLine_any 0 0 len W (by omega) (by omega) (by omega))
      have BR := Lib.hid (below_trans B4.out HR.out)
      have XR := Lib.hid (X4.out.below HR.out)
      clear e0 hw1 hlo hls hle
      generalize bs (textOf (seatLines xs)) = S1 at *
      generalize bs (seatText xs len) = S0 at *
      generalize bs (seatOut len out) = S5 at *
      generalize bs (textOf (List.replicate len okL) ++ spacedL out ++ [10]) = S4 at *
      generalize bs (textOf (List.replicate len okL) ++ spacedL out) = S3 at *
      generalize bs (textOf (List.replicate len okL)) = S2 at *
      generalize bs (spacedL out) = S6 at *
      generalize bs (endL 0 0 len ++ [10]) = S7 at *
      have deq : (S5 == S5) = true := (bytes_beq S5 S5).2 rfl
      go_wp2_with fail
      refine (HE.out _ BR.out).mono ?_
      rintro e w5 ⟨rfl, hb⟩
      have B5 := Lib.hid (below_trans BR.out hb)
      have X5 := Lib.hid (XR.out.below hb)
      clear hb
      go_wp2_with fail
      refine (HKO.out _).mono ?_
      rintro e w6 ⟨rfl, hb⟩
      have B6 := Lib.hid (below_trans B5.out hb)
      have X6 := Lib.hid (X5.out.below hb)
      clear hb
      go_wp2_with fail
      refine (HKS.out _ X6.out).mono ?_
      rintro e w7 ⟨rfl, hb⟩
      have B7 := Lib.hid (below_trans B6.out hb)
      clear hb
      go_wp2_with fail
      refine (HKE.out _).mono ?_
      rintro e w8 ⟨rfl, hb⟩
      have B8 := Lib.hid (below_trans B7.out hb)
      clear hb
      go_wp2_with fail
      go_ret
      exact ⟨rfl, B8.out⟩
end Go.Proofs.YtgjllminidlolaaGreatDoor
