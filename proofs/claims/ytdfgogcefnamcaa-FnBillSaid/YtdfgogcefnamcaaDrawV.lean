/- Contracts: DrawBillValid. -/
import Derived.Test.YtdfgogcefnamcaaDrawN
set_option linter.unusedVariables false
namespace Go.Proofs.Ytdfgogcefnamcaa
open Go.RowKit

/-- A number and a way-bill, seldom another list, have been drawn. -/
def DrewBV (w : World) (e : Ending) (w' : World) : Prop :=
  ∃ n v xs, e = .returned (.tuple #[.int .i64 n, v]) ∧ 0 ≤ n ∧ n ≤ 8 ∧ xs.length ≤ 10 ∧ OwnE 3 enc3 28 w.heap.size w' v xs ∧ Below w.heap.size w w'
set_option maxRecDepth 20000 in
set_option maxHeartbeats 3200000 in
theorem drawBillValid_any (A : Option Addr) (n c : Nat) (bs : List Int) (w : World) (h : SlE 1 encU w A n bs) (hb : Bytes bs) (hn : n ≤ 1048576) (hc : n ≤ c) :
    Calls Try.prog 16 #[.slice A n c] w (DrewBV w) := by
  have H := Lib.hid h
  have HB := Lib.hid hb
  clear h hb
  go_enter Try.func16, Try.ntmps16
  go_wp2_with fail
  refine (l6Open_any A n c bs w H.out HB.out hn hc).mono ?_
  rintro e w1 ⟨rfl, hr, hb1, hs1⟩
  have HR := Lib.hid hr
  have HB1 := Lib.hid hb1
  clear hr hb1 H HB
  go_wp2_with fail
  refine (l93Bill_any w.heap.size 0 w1 HR.out (by omega)).mono ?_
  rintro e w2 ⟨N, v, xs, rfl, k0, k1, hl, hd⟩
  have D2 := Lib.hid hd
  clear hd HR
  obtain ⟨A', c', rfl, -, hlc⟩ := D2.out.2.2.2.1.slc enc3_len rfl
  generalize hlen : xs.length = len at *
  have HL := Lib.hid hlen
  have hRw := D2.out.1
  clear hlen
  go_wp2_with fail
  refine (pick_any w.heap.size (0 + 40) 12 w2 D2.out.2.1 (by omega) (by omega)).mono ?_
  rintro e w3 ⟨q, rfl, q0, q1, -, hr, hg⟩
  have D3 := Lib.hid (D2.out.pick hr hg)
  clear hr hg D2 q1
  by_cases e0 : q = 0
  · go_wp2_with fail
    refine (pick_any w.heap.size (0 + 40 + 1) 3 _ (D3.out.alloc _).2.1 (by omega) (by omega)).mono ?_
    rintro e w4 ⟨x3, rfl, c0, c1, -, hr, hg⟩
    have c1 := c1 (by omega)
    obtain ⟨x3, rfl⟩ : ∃ i : Nat, x3 = i := ⟨x3.toNat, by omega⟩
    obtain ⟨z, hz, hzm⟩ := lit_at [0, 8, 1] _ rfl (by simp) hg (Nat.lt_of_lt_of_le hRw D3.out.size) (x := x3) (by simp; omega)
    have hz01 : 0 ≤ z ∧ z ≤ 8 := by simp at hzm; omega
    have D4 := Lib.hid ((D3.out.alloc _).pick hr hg)
    clear hr hg D3 hzm
    go_wp2_with fail
    go_ret2
    exact ⟨z, _, xs, rfl, hz01.1, hz01.2, by rw [HL.out]; omega, D4.out.2.2.2.1.base_le (by omega), below_rd HB1.out D4.out.2.2.1⟩
  · have f0 : (q == 0) = false := by simp; omega
    by_cases e1 : q = 1
    · have hsz := D3.out.size
      have D4 := Lib.hid (D3.out.alloc (.cells #[.int .i64 0, .int .i64 1, .int .i64 99, .int .i64 0, .int .i64 1, .int .i64 99] 28))
      have S4 := Lib.hid (slE_new (k := 3) (enc := enc3) w3 28 enc3_len [⟨0, 1, 99⟩, ⟨0, 1, 99⟩] #[.int .i64 0, .int .i64 1, .int .i64 99, .int .i64 0, .int .i64 1, .int .i64 99] rfl (by simp [maxLen]) (n := 2) rfl (g := w3.heap.size) rfl)
      go_wp2_with (at_builtin; refine wpList_cat (bytes := 24) (base := w1.heap.size) enc3_len enc3_one (by omega) rfl _ _ _ rfl Try.underlying23 info_conP rfl _ xs rfl D4.out.2.2.2.1 rfl S4.out (by rw [HL.out]; omega) (by rw [HL.out]; unfold maxLen; omega) (Nat.le_trans hsz (by simp)) ?_; intro v' w' hown' hg'; have D5 := Lib.hid (D4.out.to hg' hown' ((D4.out.2.2.2.2.snoc (p := ⟨0, 1, 99⟩) (by dsimp only; omega)).snoc (p := ⟨0, 1, 99⟩) (by dsimp only; omega) |> fun h => by simpa using h)); clear hown' hg')
      go_ret2
      exact ⟨N, _, xs ++ [⟨0, 1, 99⟩, ⟨0, 1, 99⟩], rfl, by omega, by omega, by rw [List.length_append, HL.out]; simp; omega, D5.out.2.2.2.1.base_le (by omega), below_rd HB1.out D5.out.2.2.1⟩
    · have f1 : (q == 1) = false := by simp; omega
      go_wp2_with fail
      go_ret2
      exact ⟨N, _, xs, rfl, by omega, by omega, by rw [HL.out]; omega, D3.out.2.2.2.1.base_le (by omega), below_rd HB1.out D3.out.2.2.1⟩
end Go.Proofs.Ytdfgogcefnamcaa
