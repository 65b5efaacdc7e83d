/- Contracts: the reference's BillMoves, BillNested, BillStack; program and reference end alike. -/
import Derived.Test.YtdfgogcefnamcaaStkS
set_option linter.unusedVariables false
namespace Go.Proofs.Ytdfgogcefnamcaa
open Go.RowKit

theorem bill_ab {n : Int} {xs : List T3} (h : BillOk n xs) : ∀ p ∈ xs, 0 ≤ p.a ∧ p.a < p.b := fun p hp => by
  have := h.2.2.2.1 p hp
  exact ⟨this.1, this.2.1⟩

set_option maxRecDepth 20000 in
set_option maxHeartbeats 800000 in
theorem specBillMoves_yes (A : Option Addr) (n len cap : Nat) (xs : List T3) (w : World) (h : SlE 3 enc3 w A len xs) (hB : BillOk n xs) :
    Calls Try.prog 38 #[.int .i64 n, .slice A len cap] w (Only (.int .i64 (runI (packs xs) (n + 1)).2) w) := by
  have H := Lib.hid h
  have HB := Lib.hid hB
  have hlen : len ≤ 12 := by have := hB.2.2.1; have := h.len; omega
  have hn : n ≤ 7 := by have := hB.2.1; omega
  clear h hB
  go_enter Try.func38, Try.ntmps38
  go_wp2_with fail
  refine (specBillValid_any A n len cap xs w H.out (by omega)).mono ?_
  intro e w1 hp
  obtain ⟨rfl, hb1⟩ := hp.yes HB.out
  have HB1 := Lib.hid hb1
  clear hb1 hp
  go_wp2_with fail
  refine (l9Run_any A n len cap xs w1 (H.out.below HB1.out) hlen hn (bill_ab HB.out)).mono ?_
  rintro e w2 ⟨v, rfl, hown, hb2⟩
  have HB2 := Lib.hid (below_trans HB1.out hb2)
  clear hb2 hown
  go_wp2
  go_ret
  exact ⟨rfl, HB2.out⟩

set_option maxRecDepth 20000 in
set_option maxHeartbeats 800000 in
theorem specBillMoves_no (A : Option Addr) (n : Int) (len cap : Nat) (xs : List T3) (w : World) (h : SlE 3 enc3 w A len xs) (hl : len ≤ 16777216) (hB : ¬ BillOk n xs) :
    Calls Try.prog 38 #[.int .i64 n, .slice A len cap] w (Only (.int .i64 (-1)) w) := by
  go_enter Try.func38, Try.ntmps38
  go_wp2_with fail
  refine (specBillValid_any A n len cap xs w h hl).mono ?_
  intro e w1 hp
  obtain ⟨rfl, hb1⟩ := hp.no hB
  have HB1 := Lib.hid hb1
  clear hb1 hp
  go_wp2
  go_ret
  exact ⟨rfl, HB1.out⟩

set_option maxRecDepth 20000 in
set_option maxHeartbeats 800000 in
theorem specBillNested_of (A : Option Addr) (n r : Int) (len cap : Nat) (w : World) (h : Calls Try.prog 38 #[.int .i64 n, .slice A len cap] w (Only (.int .i64 r) w)) :
    Calls Try.prog 45 #[.int .i64 n, .slice A len cap] w (Only (.bool (r == 0)) w) := by
  have H := Lib.hid h
  clear h
  go_enter Try.func45, Try.ntmps45
  go_wp2_with fail
  refine H.out.mono ?_
  rintro e w1 ⟨rfl, hb1⟩
  have HB1 := Lib.hid hb1
  clear hb1
  go_wp2
  go_ret
  exact ⟨rfl, HB1.out⟩

set_option maxRecDepth 20000 in
set_option maxHeartbeats 800000 in
theorem specBillStack_yes (A : Option Addr) (n s : Nat) (len cap : Nat) (xs : List T3) (w : World) (h : SlE 3 enc3 w A len xs) (hB : BillOk n xs) (hs : s ≤ n) :
    Calls Try.prog 41 #[.int .i64 n, .slice A len cap, .int .i64 s] w (RetOwnB 1 encI 3 (runI (packs xs) (s + 1)).1 true w) := by
  have H := Lib.hid h
  have HB := Lib.hid hB
  have hlen : len ≤ 12 := by have := hB.2.2.1; have := h.len; omega
  have hn : n ≤ 7 := by have := hB.2.1; omega
  clear h hB
  go_enter Try.func41, Try.ntmps41
  go_wp2_with fail
  refine (specBillValid_any A n len cap xs w H.out (by omega)).mono ?_
  intro e w1 hp
  obtain ⟨rfl, hb1⟩ := hp.yes HB.out
  have HB1 := Lib.hid hb1
  clear hb1 hp
  go_wp2_with (go_at_call 68; refine (l6In_any _ _ _ _).mono ?_; intro e w2 hp; obtain ⟨rfl, rfl⟩ := hp.yes (by omega))
  refine (l9Run_any A s len cap xs w1 (H.out.below HB1.out) hlen (by omega) (bill_ab HB.out)).mono ?_
  rintro e w2 ⟨v, rfl, hown, hb2⟩
  have HB2 := Lib.hid (below_trans HB1.out hb2)
  have HO2 := Lib.hid (hown.base_le HB1.out.size)
  clear hb2 hown
  go_wp2
  go_ret2
  exact ⟨_, rfl, HO2.out, HB2.out⟩

set_option maxRecDepth 20000 in
set_option maxHeartbeats 800000 in
theorem specBillStack_no (A : Option Addr) (n s : Int) (len cap : Nat) (xs : List T3) (w : World) (h : SlE 3 enc3 w A len xs) (hl : len ≤ 16777216) (hB : ¬ (BillOk n xs ∧ 0 ≤ s ∧ s ≤ n)) :
    Calls Try.prog 41 #[.int .i64 n, .slice A len cap, .int .i64 s] w (RetOwnB 1 encI 3 ([] : List Int) false w) := by
  have H := Lib.hid h
  have HB := Lib.hid hB
  clear h hB
  by_cases hb : BillOk n xs
  · have hft : ¬ (0 ≤ s ∧ s ≤ n) := fun h => HB.out ⟨hb, h⟩
    have HC := Lib.hid hb
    clear hb
    go_enter Try.func41, Try.ntmps41
    go_wp2_with fail
    refine (specBillValid_any A n len cap xs w H.out hl).mono ?_
    intro e w1 hp
    obtain ⟨rfl, hb1⟩ := hp.yes HC.out
    have HB1 := Lib.hid hb1
    clear hb1 hp
    go_wp2_with (go_at_call 68; refine (l6In_any _ _ _ _).mono ?_; intro e w2 hp; obtain ⟨rfl, rfl⟩ := hp.no hft)
    go_ret2
    exact ⟨_, rfl, own_new w1 _ _ HB1.out.size encI_len [] #[] rfl (by simp) rfl, below_alloc HB1.out _⟩
  · go_enter Try.func41, Try.ntmps41
    go_wp2_with fail
    refine (specBillValid_any A n len cap xs w H.out hl).mono ?_
    intro e w1 hp
    obtain ⟨rfl, hb1⟩ := hp.no hb
    have HB1 := Lib.hid hb1
    clear hb1 hp
    go_wp2
    go_ret2
    exact ⟨_, rfl, own_new w1 _ _ HB1.out.size encI_len [] #[] rfl (by simp) rfl, below_alloc HB1.out _⟩

theorem moves_both (n : Int) (xs : List T3) (hx : xs.length ≤ 1048576) : ∃ r : Int,
    (∀ (A : Option Addr) (len c : Nat) (w : World), SlE 3 enc3 w A len xs → len ≤ 1048576 → len ≤ c → Calls Try.prog 38 #[.int .i64 n, .slice A len c] w (Only (.int .i64 r) w)) ∧
    (∀ (A : Option Addr) (len c : Nat) (w : World), SlE 3 enc3 w A len xs → len ≤ 1048576 → len ≤ c → Calls Try.prog 37 #[.int .i64 n, .slice A len c] w (Only (.int .i64 r) w)) := by
  by_cases hB : BillOk n xs
  · obtain ⟨m, rfl⟩ : ∃ m : Nat, n = m := ⟨n.toNat, by have := hB.1; omega⟩
    exact ⟨_, fun A len c w h hl _ => specBillMoves_yes A m len c xs w h hB, fun A len c w h hl _ => implBillMoves_yes A m len c xs w h hB⟩
  · exact ⟨-1, fun A len c w h hl _ => specBillMoves_no A n len c xs w h (by omega) hB, fun A len c w h hl _ => implBillMoves_no A n len c xs w h (by omega) hB⟩
theorem nested_both (n : Int) (xs : List T3) (hx : xs.length ≤ 1048576) : ∃ r : Bool,
    (∀ (A : Option Addr) (len c : Nat) (w : World), SlE 3 enc3 w A len xs → len ≤ 1048576 → len ≤ c → Calls Try.prog 45 #[.int .i64 n, .slice A len c] w (Only (.bool r) w)) ∧
    (∀ (A : Option Addr) (len c : Nat) (w : World), SlE 3 enc3 w A len xs → len ≤ 1048576 → len ≤ c → Calls Try.prog 44 #[.int .i64 n, .slice A len c] w (Only (.bool r) w)) := by
  obtain ⟨r, h1, h2⟩ := moves_both n xs hx
  exact ⟨r == 0, fun A len c w h hl hc => specBillNested_of A n r len c w (h1 A len c w h hl hc), fun A len c w h hl hc => implBillNested_of A n r len c w (h2 A len c w h hl hc)⟩
theorem stack_both (n s : Int) (xs : List T3) (hx : xs.length ≤ 1048576) : ∃ (ys : List Int) (b : Bool), ys.length ≤ 2097152 ∧
    (∀ (A : Option Addr) (len c : Nat) (w : World), SlE 3 enc3 w A len xs → len ≤ 1048576 → len ≤ c → Calls Try.prog 41 #[.int .i64 n, .slice A len c, .int .i64 s] w (RetOwnB 1 encI 3 ys b w)) ∧
    (∀ (A : Option Addr) (len c : Nat) (w : World), SlE 3 enc3 w A len xs → len ≤ 1048576 → len ≤ c → Calls Try.prog 40 #[.int .i64 n, .slice A len c, .int .i64 s] w (RetOwnB 1 encI 3 ys b w)) := by
  by_cases hB : BillOk n xs ∧ 0 ≤ s ∧ s ≤ n
  · obtain ⟨hB, hs0, hs1⟩ := hB
    obtain ⟨m, rfl⟩ : ∃ m : Nat, n = m := ⟨n.toNat, by have := hB.1; omega⟩
    obtain ⟨j, rfl⟩ : ∃ j : Nat, s = j := ⟨s.toNat, by omega⟩
    have hbd := (runI_bd (packs xs) (by rw [packs_len]; exact hB.2.2.1) (j + 1) (by have := hB.2.1; omega)).1
    exact ⟨_, true, by have := hB.2.1; omega, fun A len c w h hl _ => specBillStack_yes A m j len c xs w h hB (by omega), fun A len c w h hl _ => implBillStack_yes A m j len c xs w h hB (by omega)⟩
  · exact ⟨[], false, by simp, fun A len c w h hl _ => specBillStack_no A n s len c xs w h (by omega) hB, fun A len c w h hl _ => implBillStack_no A n s len c xs w h (by omega) hB⟩
end Go.Proofs.Ytdfgogcefnamcaa
