/- Contracts: BillPound and BillRoom. -/
import Derived.Test.YtdfgogcefnamcaaWalkC
set_option linter.unusedVariables false
namespace Go.Proofs.Ytdfgogcefnamcaa
open Go.RowKit

set_option maxHeartbeats 800000 in
theorem specBillPound_yes (A : Option Addr) (n : Nat) (len cap : Nat) (xs : List T3) (w : World) (h : SlE 3 enc3 w A len xs) (hn : len ≤ 16777216) (hB : BillOk n xs) :
    Calls Try.prog 22 #[.int .i64 n, .slice A len cap] w (Only (.int .i64 (sumTo xs n)) w) := by
  have H := Lib.hid h
  clear h
  have hr1 := hB.1
  have hr2 := hB.2.1
  have HB := Lib.hid hB
  clear hB
  go_enter Try.func22, Try.ntmps22
  go_wp2_with fail
  refine (specBillValid_any A n len cap xs w H.out hn).mono ?_
  intro e w1 hp
  obtain ⟨rfl, hb1⟩ := hp.yes HB.out
  have HB1 := Lib.hid hb1
  clear hb1 hp
  go_wp2
  go_loop [5, 6] (fun s l => ∃ j : Nat, j ≤ n ∧ l = .int .i64 j ∧ s = .int .i64 (sumTo xs j)) (fun _ l => n - (intOf l).toNat)
  case atStart => exact ⟨0, by omega, rfl, rfl⟩
  case round =>
    obtain ⟨j, hj, rfl, rfl⟩ := hrel
    by_cases hjn : j < n
    · have hs := sumTo_bd HB.out j (by omega)
      have hl := HB.out.2.2.2.2 j (by omega)
      have hl0 := load_nonneg HB.out.2.2.2.1 j
      have HX : Hid (sumTo xs (j + 1) = sumTo xs j + load xs j) := rfl
      have hc : ∀ W, SlE 3 enc3 W A len xs → Calls Try.prog 69 #[.slice A len cap, .int .i64 j] W (Same (.int .i64 (load xs j)) W) := fun W hW => l9Load_any _ _ _ _ _ _ hW hn (okP_w HB.out.2.2.2.1)
      have HC := Lib.hid hc
      clear hc
      generalize load xs j = r at *
      generalize sumTo xs j = s at *
      go_wp2_with (go_at_call 69; refine (HC.out _ (H.out.below HB1.out)).mono ?_; rintro e w2 ⟨rfl, rfl⟩)
      go_round
      case rel => exact ⟨j + 1, by omega, by go_num, by rw [HX.out]⟩
      case measure => simp [intOf]; omega
    · have e : j = n := by omega
      subst e
      go_wp2
      go_ret
      exact ⟨rfl, HB1.out⟩
set_option maxHeartbeats 400000 in
theorem specBillPound_no (A : Option Addr) (n : Int) (len cap : Nat) (xs : List T3) (w : World) (h : SlE 3 enc3 w A len xs) (hn : len ≤ 16777216) (hB : ¬ BillOk n xs) :
    Calls Try.prog 22 #[.int .i64 n, .slice A len cap] w (Only (.int .i64 (-1)) w) := by
  have H := Lib.hid h
  have HB := Lib.hid hB
  clear h hB
  go_enter Try.func22, Try.ntmps22
  go_wp2_with fail
  refine (specBillValid_any A n len cap xs w H.out hn).mono ?_
  intro e w1 hp
  obtain ⟨rfl, hb1⟩ := hp.no HB.out
  have HB1 := Lib.hid hb1
  clear hb1 hp
  go_wp2
  go_ret
  exact ⟨rfl, HB1.out⟩

set_option maxHeartbeats 800000 in
theorem implBillPound_yes (A : Option Addr) (n : Int) (len cap : Nat) (xs : List T3) (w : World) (h : SlE 3 enc3 w A len xs) (hn : len ≤ 16777216) (hB : BillOk n xs) :
    Calls Try.prog 21 #[.int .i64 n, .slice A len cap] w (Only (.int .i64 (pound xs)) w) := by
  have H := Lib.hid h
  clear h
  have hr1 := hB.1
  have hr2 := hB.2.1
  have hl := hB.2.2.1
  rw [H.out.len] at hl
  have HB := Lib.hid hB
  clear hB
  go_enter Try.func21, Try.ntmps21
  go_wp2_with fail
  refine (implBillValid_any A n len cap xs w H.out hn).mono ?_
  intro e w1 hp
  obtain ⟨rfl, hb1⟩ := hp.yes HB.out
  have HB1 := Lib.hid hb1
  clear hb1 hp
  go_wp2
  go_loopw [5, 14, 7] (fun s i _ wr => ∃ k : Nat, k ≤ len ∧ i = .int .i64 k ∧ s = .int .i64 (pound (xs.take k)) ∧ Below w.heap.size w wr) (fun _ i _ _ => len - (intOf i).toNat)
  case atStart => exact ⟨0, by omega, rfl, rfl, HB1.out⟩
  case round =>
    obtain ⟨k, hk, rfl, rfl, hbr⟩ := hrel
    have HR := Lib.hid hbr
    clear hbr
    by_cases hlt : k < len
    · obtain ⟨b, off, x, y, z, rfl, hbl, hx, hd, h0, h1, h2⟩ := at3 H.out HR.out hlt
      have hp := pound_bd hr2 (xs.take k) (fun p hp => HB.out.2.2.2.1 p (mem_take_of hp))
      have hlk : (xs.take k).length ≤ k := List.length_take_le _ _
      have hm := okP_mul hr2 (HB.out.2.2.2.1 _ (mem_at hx))
      have hok := HB.out.2.2.2.1 _ (mem_at hx)
      unfold OkP at hok
      have HX := Lib.hid (pound_next hx)
      clear hx hd
      simp only at hm hok
      generalize pound (xs.take k) = s at *
      go_wp2
      go_roundw
      case rel => exact ⟨k + 1, by omega, by go_num, by rw [HX.out], below_alloc HR.out _⟩
      case measure => simp [intOf]; omega
    · have hx : xs.take k = xs := List.take_of_length_le (by have := H.out.len; omega)
      rw [hx]
      clear hx
      go_wp2
      go_ret
      exact ⟨rfl, HR.out⟩
set_option maxHeartbeats 400000 in
theorem implBillPound_no (A : Option Addr) (n : Int) (len cap : Nat) (xs : List T3) (w : World) (h : SlE 3 enc3 w A len xs) (hn : len ≤ 16777216) (hB : ¬ BillOk n xs) :
    Calls Try.prog 21 #[.int .i64 n, .slice A len cap] w (Only (.int .i64 (-1)) w) := by
  have H := Lib.hid h
  have HB := Lib.hid hB
  clear h hB
  go_enter Try.func21, Try.ntmps21
  go_wp2_with fail
  refine (implBillValid_any A n len cap xs w H.out hn).mono ?_
  intro e w1 hp
  obtain ⟨rfl, hb1⟩ := hp.no HB.out
  have HB1 := Lib.hid hb1
  clear hb1 hp
  go_wp2
  go_ret
  exact ⟨rfl, HB1.out⟩

/-! BillRoom: what both give. -/
set_option maxHeartbeats 800000 in
theorem specBillRoom_yes (A : Option Addr) (n f t : Int) (len cap : Nat) (xs : List T3) (w : World) (h : SlE 3 enc3 w A len xs) (hn : len ≤ 16777216) (hB : BillOk n xs) (hft : 0 ≤ f ∧ f < t ∧ t ≤ n) :
    Calls Try.prog 34 #[.int .i64 n, .slice A len cap, .int .i64 f, .int .i64 t] w (Only (.int .i64 (roomTo xs f (t - f).toNat)) w) := by
  have H := Lib.hid h
  clear h
  obtain ⟨hf0, hft, htn⟩ := hft
  have hr1 := hB.1
  have hr2 := hB.2.1
  have HB := Lib.hid hB
  clear hB
  go_enter Try.func34, Try.ntmps34
  go_wp2_with fail
  refine (specBillValid_any A n len cap xs w H.out hn).mono ?_
  intro e w1 hp
  obtain ⟨rfl, hb1⟩ := hp.yes HB.out
  have HB1 := Lib.hid hb1
  clear hb1 hp
  go_wp2_with (go_at_call 68; refine (l6In_any _ _ _ _).mono ?_; intro e w2 hp; obtain ⟨rfl, rfl⟩ := hp.yes (by omega))
  go_loopw [9, 10] (fun s l wr => ∃ j : Nat, f + j ≤ t ∧ l = .int .i64 (f + j) ∧ s = .int .i64 (roomTo xs f j) ∧ Below w.heap.size w wr) (fun _ l _ => (t - intOf l).toNat)
  case atStart => exact ⟨0, by omega, by go_num, rfl, HB1.out⟩
  case round =>
    obtain ⟨j, hj, rfl, rfl, hbr⟩ := hrel
    have HR := Lib.hid hbr
    clear hbr
    by_cases hjn : f + j < t
    · have hs := roomTo_bd HB.out f hf0 j (by omega)
      have hl := HB.out.2.2.2.2 (f + j).toNat (by omega)
      rw [Int.toNat_of_nonneg (by omega)] at hl
      have hl0 := load_nonneg HB.out.2.2.2.1 (f + j)
      have HX : Hid (roomTo xs f (j + 1) = min (roomTo xs f j) (300 - load xs (f + j))) := rfl
      have hc : ∀ W, SlE 3 enc3 W A len xs → Calls Try.prog 69 #[.slice A len cap, .int .i64 (f + j)] W (Only (.int .i64 (load xs (f + j))) W) := fun W hW => (l9Load_any _ _ _ _ _ _ hW hn (okP_w HB.out.2.2.2.1)).mono fun _ _ h => h.only
      have HC := Lib.hid hc
      clear hc
      generalize load xs (f + j) = r at *
      generalize roomTo xs f j = s at *
      go_wp2_with (go_at_call 69; refine (HC.out _ (H.out.below HR.out)).mono ?_; rintro e w2 ⟨rfl, hb2⟩; have HN := Lib.hid (below_trans HR.out hb2); clear hb2)
      go_roundw
      case rel => exact ⟨j + 1, by omega, by go_num, by rw [HX.out, min_ite], HN.out⟩
      case measure => simp [intOf]; omega
    · have e : (t - f).toNat = j := by omega
      have E := Lib.hid e
      clear e
      go_wp2
      go_ret
      exact ⟨ret_int (by rw [E.out]), HR.out⟩
set_option maxHeartbeats 800000 in
theorem specBillRoom_no (A : Option Addr) (n f t : Int) (len cap : Nat) (xs : List T3) (w : World) (h : SlE 3 enc3 w A len xs) (hn : len ≤ 16777216) (hB : ¬ (BillOk n xs ∧ 0 ≤ f ∧ f < t ∧ t ≤ n)) :
    Calls Try.prog 34 #[.int .i64 n, .slice A len cap, .int .i64 f, .int .i64 t] w (Only (.int .i64 (-1)) w) := by
  have H := Lib.hid h
  have HB := Lib.hid hB
  clear h hB
  by_cases hb : BillOk n xs
  · have hft : ¬ (0 ≤ f ∧ f < t ∧ t ≤ n) := fun h => HB.out ⟨hb, h⟩
    have hr1 := hb.1
    have hr2 := hb.2.1
    have HC := Lib.hid hb
    clear hb
    go_enter Try.func34, Try.ntmps34
    go_wp2_with fail
    refine (specBillValid_any A n len cap xs w H.out hn).mono ?_
    intro e w1 hp
    obtain ⟨rfl, hb1⟩ := hp.yes HC.out
    have HB1 := Lib.hid hb1
    clear hb1 hp
    have HF := Lib.hid hft
    clear hft
    go_wp2_with (go_at_call 68; refine (l6In_any _ _ _ _).mono ?_; intro e w2 hp; rcases hp.cases with ⟨rfl, hp, rfl⟩ | ⟨rfl, hp, rfl⟩)
    all_goals first
      | exact absurd (by omega) HF.out
      | (go_ret; exact ⟨rfl, HB1.out⟩)
  · go_enter Try.func34, Try.ntmps34
    go_wp2_with fail
    refine (specBillValid_any A n len cap xs w H.out hn).mono ?_
    intro e w1 hp
    obtain ⟨rfl, hb1⟩ := hp.no hb
    have HB1 := Lib.hid hb1
    clear hb1 hp
    go_wp2
    go_ret
    exact ⟨rfl, HB1.out⟩
set_option maxHeartbeats 800000 in
theorem implBillRoom_yes (A : Option Addr) (n f t : Int) (len cap : Nat) (xs : List T3) (w : World) (h : SlE 3 enc3 w A len xs) (hn : len ≤ 16777216) (hB : BillOk n xs) (hft : 0 ≤ f ∧ f < t ∧ t ≤ n) :
    Calls Try.prog 33 #[.int .i64 n, .slice A len cap, .int .i64 f, .int .i64 t] w (Only (.int .i64 (roomTo xs f (t - f).toNat)) w) := by
  have H := Lib.hid h
  clear h
  obtain ⟨hf0, hft, htn⟩ := hft
  have hr1 := hB.1
  have hr2 := hB.2.1
  have HB := Lib.hid hB
  clear hB
  go_enter Try.func33, Try.ntmps33
  go_wp2_with fail
  refine (implBillValid_any A n len cap xs w H.out hn).mono ?_
  intro e w1 hp
  obtain ⟨rfl, hb1⟩ := hp.yes HB.out
  have HB1 := Lib.hid hb1
  clear hb1 hp
  go_wp2_with (go_at_call 66; refine (stopsOrdered_any _ _ _ _).mono ?_; intro e w2 hp; obtain ⟨rfl, rfl⟩ := hp.yes (by omega))
  go_loopw [9, 10] (fun s l wr => ∃ j : Nat, f + j ≤ t ∧ l = .int .i64 (f + j) ∧ s = .int .i64 (roomTo xs f j) ∧ Below w.heap.size w wr) (fun _ l _ => (t - intOf l).toNat)
  case atStart => exact ⟨0, by omega, by go_num, rfl, HB1.out⟩
  case round =>
    obtain ⟨j, hj, rfl, rfl, hbr⟩ := hrel
    have HR := Lib.hid hbr
    clear hbr
    by_cases hjn : f + j < t
    · have hs := roomTo_bd HB.out f hf0 j (by omega)
      have hl := HB.out.2.2.2.2 (f + j).toNat (by omega)
      rw [Int.toNat_of_nonneg (by omega)] at hl
      have hl0 := load_nonneg HB.out.2.2.2.1 (f + j)
      have HX : Hid (roomTo xs f (j + 1) = min (roomTo xs f j) (300 - load xs (f + j))) := rfl
      have hc : ∀ W, SlE 3 enc3 W A len xs → Calls Try.prog 67 #[.slice A len cap, .int .i64 (f + j)] W (Only (.int .i64 (load xs (f + j))) W) := fun W hW => (loadOn_any _ _ _ _ _ _ hW hn (okP_w HB.out.2.2.2.1)).mono fun _ _ h => h
      have HC := Lib.hid hc
      clear hc
      generalize load xs (f + j) = r at *
      generalize roomTo xs f j = s at *
      go_wp2_with (go_at_call 67; refine (HC.out _ (H.out.below HR.out)).mono ?_; rintro e w2 ⟨rfl, hb2⟩; have HN := Lib.hid (below_trans HR.out hb2); clear hb2)
      go_roundw
      case rel => exact ⟨j + 1, by omega, by go_num, by rw [HX.out, min_ite], HN.out⟩
      case measure => simp [intOf]; omega
    · have e : (t - f).toNat = j := by omega
      have E := Lib.hid e
      clear e
      go_wp2
      go_ret
      exact ⟨ret_int (by rw [E.out]), HR.out⟩
set_option maxHeartbeats 800000 in
theorem implBillRoom_no (A : Option Addr) (n f t : Int) (len cap : Nat) (xs : List T3) (w : World) (h : SlE 3 enc3 w A len xs) (hn : len ≤ 16777216) (hB : ¬ (BillOk n xs ∧ 0 ≤ f ∧ f < t ∧ t ≤ n)) :
    Calls Try.prog 33 #[.int .i64 n, .slice A len cap, .int .i64 f, .int .i64 t] w (Only (.int .i64 (-1)) w) := by
  have H := Lib.hid h
  have HB := Lib.hid hB
  clear h hB
  by_cases hb : BillOk n xs
  · have hft : ¬ (0 ≤ f ∧ f < t ∧ t ≤ n) := fun h => HB.out ⟨hb, h⟩
    have hr1 := hb.1
    have hr2 := hb.2.1
    have HC := Lib.hid hb
    clear hb
    go_enter Try.func33, Try.ntmps33
    go_wp2_with fail
    refine (implBillValid_any A n len cap xs w H.out hn).mono ?_
    intro e w1 hp
    obtain ⟨rfl, hb1⟩ := hp.yes HC.out
    have HB1 := Lib.hid hb1
    clear hb1 hp
    have HF := Lib.hid hft
    clear hft
    go_wp2_with (go_at_call 66; refine (stopsOrdered_any _ _ _ _).mono ?_; intro e w2 hp; rcases hp.cases with ⟨rfl, hp, rfl⟩ | ⟨rfl, hp, rfl⟩)
    all_goals first
      | exact absurd (by omega) HF.out
      | (go_ret; exact ⟨rfl, HB1.out⟩)
  · go_enter Try.func33, Try.ntmps33
    go_wp2_with fail
    refine (implBillValid_any A n len cap xs w H.out hn).mono ?_
    intro e w1 hp
    obtain ⟨rfl, hb1⟩ := hp.no hb
    have HB1 := Lib.hid hb1
    clear hb1 hp
    go_wp2
    go_ret
    exact ⟨rfl, HB1.out⟩

/-! What the exact laws want: both functions, at one list, end alike. -/
theorem pound_both (n : Int) (xs : List T3) : ∃ r : Int,
    (∀ (A : Option Addr) (len c : Nat) (w : World), SlE 3 enc3 w A len xs → len ≤ 1048576 → len ≤ c → Calls Try.prog 22 #[.int .i64 n, .slice A len c] w (Only (.int .i64 r) w)) ∧
    (∀ (A : Option Addr) (len c : Nat) (w : World), SlE 3 enc3 w A len xs → len ≤ 1048576 → len ≤ c → Calls Try.prog 21 #[.int .i64 n, .slice A len c] w (Only (.int .i64 r) w)) := by
  by_cases hB : BillOk n xs
  · obtain ⟨m, rfl⟩ : ∃ m : Nat, n = m := ⟨n.toNat, by have := hB.1; omega⟩
    exact ⟨pound xs, fun A len c w h hl _ => by rw [← sumTo_pound m xs hB.2.2.2.1]; exact specBillPound_yes A m len c xs w h (by omega) hB, fun A len c w h hl _ => implBillPound_yes A m len c xs w h (by omega) hB⟩
  · exact ⟨-1, fun A len c w h hl _ => specBillPound_no A n len c xs w h (by omega) hB, fun A len c w h hl _ => implBillPound_no A n len c xs w h (by omega) hB⟩
theorem room_both (n f t : Int) (xs : List T3) : ∃ r : Int,
    (∀ (A : Option Addr) (len c : Nat) (w : World), SlE 3 enc3 w A len xs → len ≤ 1048576 → len ≤ c → Calls Try.prog 34 #[.int .i64 n, .slice A len c, .int .i64 f, .int .i64 t] w (Only (.int .i64 r) w)) ∧
    (∀ (A : Option Addr) (len c : Nat) (w : World), SlE 3 enc3 w A len xs → len ≤ 1048576 → len ≤ c → Calls Try.prog 33 #[.int .i64 n, .slice A len c, .int .i64 f, .int .i64 t] w (Only (.int .i64 r) w)) := by
  by_cases hB : BillOk n xs ∧ 0 ≤ f ∧ f < t ∧ t ≤ n
  · exact ⟨roomTo xs f (t - f).toNat, fun A len c w h hl _ => specBillRoom_yes A n f t len c xs w h (by omega) hB.1 hB.2, fun A len c w h hl _ => implBillRoom_yes A n f t len c xs w h (by omega) hB.1 hB.2⟩
  · exact ⟨-1, fun A len c w h hl _ => specBillRoom_no A n f t len c xs w h (by omega) hB, fun A len c w h hl _ => implBillRoom_no A n f t len c xs w h (by omega) hB⟩
theorem valid_both (n : Int) (xs : List T3) : ∃ r : Bool,
    (∀ (A : Option Addr) (len c : Nat) (w : World), SlE 3 enc3 w A len xs → len ≤ 1048576 → len ≤ c → Calls Try.prog 18 #[.int .i64 n, .slice A len c] w (Only (.bool r) w)) ∧
    (∀ (A : Option Addr) (len c : Nat) (w : World), SlE 3 enc3 w A len xs → len ≤ 1048576 → len ≤ c → Calls Try.prog 17 #[.int .i64 n, .slice A len c] w (Only (.bool r) w)) := by
  by_cases hB : BillOk n xs
  · exact ⟨true, fun A len c w h hl _ => (specBillValid_any A n len c xs w h (by omega)).mono fun _ _ h => h.yes hB, fun A len c w h hl _ => (implBillValid_any A n len c xs w h (by omega)).mono fun _ _ h => h.yes hB⟩
  · exact ⟨false, fun A len c w h hl _ => (specBillValid_any A n len c xs w h (by omega)).mono fun _ _ h => h.no hB, fun A len c w h hl _ => (implBillValid_any A n len c xs w h (by omega)).mono fun _ _ h => h.no hB⟩
end Go.Proofs.Ytdfgogcefnamcaa
