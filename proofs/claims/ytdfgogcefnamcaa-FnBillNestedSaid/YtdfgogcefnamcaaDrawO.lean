/- Contracts: DrawBillNested. -/
import Derived.Test.YtdfgogcefnamcaaDrawN
import Derived.Test.YtdfgogcefnamcaaOrdV
set_option linter.unusedVariables false
namespace Go.Proofs.Ytdfgogcefnamcaa
open Go.RowKit

/-- A number and a way-bill have been drawn. -/
def DrewBS (w : World) (e : Ending) (w' : World) : Prop :=
  ∃ (n : Int) (A : Option Addr) (l c : Nat) (xs : List T3), e = .returned (.tuple #[.int .i64 n, .slice A l c]) ∧ 1 ≤ n ∧ n ≤ 6 ∧ l ≤ 8 ∧ l ≤ c ∧ SlE 3 enc3 w' A l xs ∧ Below w.heap.size w w'
/-- Parcels of the draw's own, apart from the reader. -/
theorem own_apartP {w W W' : World} {R : Nat} {u : Value} {ys : List T3} (hR : R < w.heap.size) (h : OwnE 3 enc3 28 w.heap.size W u ys) (hg : W.grownBy W' (some R)) : OwnE 3 enc3 28 w.heap.size W' u ys := by
  refine OwnE.apart h hg ?_
  by_cases e : u.ownBlock = some R
  · have := (h.lt R e).1
    omega
  · exact .inr e
set_option maxRecDepth 20000 in
set_option maxHeartbeats 3200000 in
theorem drawBillNested_any (A : Option Addr) (n c : Nat) (bs : List Int) (w : World) (h : SlE 1 encU w A n bs) (hb : Bytes bs) (hn : n ≤ 1048576) (hc : n ≤ c) :
    Calls Try.prog 43 #[.slice A n c] w (DrewBS w) := by
  have H := Lib.hid h
  have HB := Lib.hid hb
  clear h hb
  go_enter Try.func43, Try.ntmps43
  go_wp2_with fail
  refine (l6Open_any A n c bs w H.out HB.out hn hc).mono ?_
  rintro e w1 ⟨rfl, hr, hb1, hs1⟩
  have HR := Lib.hid hr
  have HB1 := Lib.hid hb1
  clear hr hb1 H HB
  go_wp2_with fail
  refine (l93Bill_any w.heap.size 0 w1 HR.out (by omega)).mono ?_
  rintro e w2 ⟨N, v, xs, rfl, k0, k1, hl, hd⟩
  have D2 := Lib.hid hd
  clear hd HR
  obtain ⟨A', c', rfl, -, hlc⟩ := D2.out.2.2.2.1.slc enc3_len rfl
  generalize hlen : xs.length = len at *
  have HL := Lib.hid hlen
  have hRw := D2.out.1
  clear hlen
  by_cases h3 : 3 < len
  · go_wp2_with fail
    refine (pick_any w.heap.size (0 + 40) 2 w2 D2.out.2.1 (by omega) (by omega)).mono ?_
    rintro e w3 ⟨p, rfl, p0, p1, -, hr, hg⟩
    have D4 := Lib.hid (D2.out.pick hr hg)
    clear hr hg D2 p1
    by_cases hp : p = 0
    · have HZ := Lib.hid ((sl_of_own_at enc3_len D4.out.2.2.2.1 HL.out).take (j := 3) (by omega))
      have i2 : (3 : Int) ≤ (c' : Int) := by omega
      by_cases hok : BillOk N (xs.take 3)
      · have HOK := Lib.hid hok
        clear hok
        go_wp2_with fail
        refine (specBillOrder_any A' N 3 c' (xs.take 3) _ true w3 HZ.out (by omega) (.inl ⟨rfl, HOK.out, rfl⟩)).mono ?_
        rintro e w5 ⟨v5, rfl, hown5, hb5⟩
        have D5 := Lib.hid (D4.out.below hb5)
        have hzw := D4.out.size
        have O5 := Lib.hid (hown5.base_le hzw)
        obtain ⟨A5, c5, rfl, -, hc5⟩ := hown5.slc enc3_len (n := 3) (by rw [isort_len]; exact HZ.out.len)
        clear hown5 hb5
        go_wp2_with fail
        refine (pick_any w.heap.size (0 + 40 + 1) 3 w5 D5.out.2.1 (by omega) (by omega)).mono ?_
        rintro e w6 ⟨q, rfl, q0, q1, -, hr, hg⟩
        have D6 := Lib.hid (D5.out.pick hr hg)
        have O6 := Lib.hid (own_apartP hRw O5.out hg)
        clear hr hg q1
        by_cases hq : 0 < q
        · go_wp2_with fail
          go_ret2
          exact ⟨N, A5, 3, c5, isort lessP (xs.take 3), rfl, k0, k1, by omega, hc5, sl_of_own_at enc3_len O6.out (by rw [isort_len]; exact HZ.out.len), below_rd HB1.out D6.out.2.2.1⟩
        · go_wp2_with fail
          go_ret2
          exact ⟨N, A', 3, c', (xs.take 3), rfl, k0, k1, by omega, by omega, (sl_of_own_at enc3_len D6.out.2.2.2.1 HL.out).take (j := 3) (by omega), below_rd HB1.out D6.out.2.2.1⟩
      · have HOK := Lib.hid hok
        clear hok
        go_wp2_with fail
        refine (specBillOrder_any A' N 3 c' (xs.take 3) _ false w3 HZ.out (by omega) (.inr ⟨rfl, HOK.out, rfl⟩)).mono ?_
        rintro e w5 ⟨v5, rfl, hown5, hb5⟩
        have D5 := Lib.hid (D4.out.below hb5)
        obtain ⟨A5, c5, rfl, -, hc5⟩ := hown5.slc enc3_len (n := 0) rfl
        clear hown5 hb5
        go_wp2_with fail
        go_ret2
        exact ⟨N, A', 3, c', (xs.take 3), rfl, k0, k1, by omega, by omega, (sl_of_own_at enc3_len D5.out.2.2.2.1 HL.out).take (j := 3) (by omega), below_rd HB1.out D5.out.2.2.1⟩
    · have f0 : (p == 0) = false := by simp; omega
      have HZ := Lib.hid (sl_of_own_at enc3_len D4.out.2.2.2.1 HL.out)
      by_cases hok : BillOk N xs
      · have HOK := Lib.hid hok
        clear hok
        go_wp2_with fail
        refine (specBillOrder_any A' N len c' xs _ true w3 HZ.out (by omega) (.inl ⟨rfl, HOK.out, rfl⟩)).mono ?_
        rintro e w5 ⟨v5, rfl, hown5, hb5⟩
        have D5 := Lib.hid (D4.out.below hb5)
        have hzw := D4.out.size
        have O5 := Lib.hid (hown5.base_le hzw)
        obtain ⟨A5, c5, rfl, -, hc5⟩ := hown5.slc enc3_len (n := len) (by rw [isort_len]; exact HZ.out.len)
        clear hown5 hb5
        go_wp2_with fail
        refine (pick_any w.heap.size (0 + 40 + 1) 3 w5 D5.out.2.1 (by omega) (by omega)).mono ?_
        rintro e w6 ⟨q, rfl, q0, q1, -, hr, hg⟩
        have D6 := Lib.hid (D5.out.pick hr hg)
        have O6 := Lib.hid (own_apartP hRw O5.out hg)
        clear hr hg q1
        by_cases hq : 0 < q
        · go_wp2_with fail
          go_ret2
          exact ⟨N, A5, len, c5, isort lessP xs, rfl, k0, k1, by omega, hc5, sl_of_own_at enc3_len O6.out (by rw [isort_len]; exact HZ.out.len), below_rd HB1.out D6.out.2.2.1⟩
        · go_wp2_with fail
          go_ret2
          exact ⟨N, A', len, c', xs, rfl, k0, k1, by omega, by omega, sl_of_own_at enc3_len D6.out.2.2.2.1 HL.out, below_rd HB1.out D6.out.2.2.1⟩
      · have HOK := Lib.hid hok
        clear hok
        go_wp2_with fail
        refine (specBillOrder_any A' N len c' xs _ false w3 HZ.out (by omega) (.inr ⟨rfl, HOK.out, rfl⟩)).mono ?_
        rintro e w5 ⟨v5, rfl, hown5, hb5⟩
        have D5 := Lib.hid (D4.out.below hb5)
        obtain ⟨A5, c5, rfl, -, hc5⟩ := hown5.slc enc3_len (n := 0) rfl
        clear hown5 hb5
        go_wp2_with fail
        go_ret2
        exact ⟨N, A', len, c', xs, rfl, k0, k1, by omega, by omega, sl_of_own_at enc3_len D5.out.2.2.2.1 HL.out, below_rd HB1.out D5.out.2.2.1⟩
  · have D4 := D2
    clear D2
    have HZ := Lib.hid (sl_of_own_at enc3_len D4.out.2.2.2.1 HL.out)
    by_cases hok : BillOk N xs
    · have HOK := Lib.hid hok
      clear hok
      go_wp2_with fail
      refine (specBillOrder_any A' N len c' xs _ true w2 HZ.out (by omega) (.inl ⟨rfl, HOK.out, rfl⟩)).mono ?_
      rintro e w5 ⟨v5, rfl, hown5, hb5⟩
      have D5 := Lib.hid (D4.out.below hb5)
      have hzw := D4.out.size
      have O5 := Lib.hid (hown5.base_le hzw)
      obtain ⟨A5, c5, rfl, -, hc5⟩ := hown5.slc enc3_len (n := len) (by rw [isort_len]; exact HZ.out.len)
      clear hown5 hb5
      go_wp2_with fail
      refine (pick_any w.heap.size (0 + 39 + 1) 3 w5 D5.out.2.1 (by omega) (by omega)).mono ?_
      rintro e w6 ⟨q, rfl, q0, q1, -, hr, hg⟩
      have D6 := Lib.hid (D5.out.pick hr hg)
      have O6 := Lib.hid (own_apartP hRw O5.out hg)
      clear hr hg q1
      by_cases hq : 0 < q
      · go_wp2_with fail
        go_ret2
        exact ⟨N, A5, len, c5, isort lessP xs, rfl, k0, k1, by omega, hc5, sl_of_own_at enc3_len O6.out (by rw [isort_len]; exact HZ.out.len), below_rd HB1.out D6.out.2.2.1⟩
      · go_wp2_with fail
        go_ret2
        exact ⟨N, A', len, c', xs, rfl, k0, k1, by omega, by omega, sl_of_own_at enc3_len D6.out.2.2.2.1 HL.out, below_rd HB1.out D6.out.2.2.1⟩
    · have HOK := Lib.hid hok
      clear hok
      go_wp2_with fail
      refine (specBillOrder_any A' N len c' xs _ false w2 HZ.out (by omega) (.inr ⟨rfl, HOK.out, rfl⟩)).mono ?_
      rintro e w5 ⟨v5, rfl, hown5, hb5⟩
      have D5 := Lib.hid (D4.out.below hb5)
      obtain ⟨A5, c5, rfl, -, hc5⟩ := hown5.slc enc3_len (n := 0) rfl
      clear hown5 hb5
      go_wp2_with fail
      go_ret2
      exact ⟨N, A', len, c', xs, rfl, k0, k1, by omega, by omega, sl_of_own_at enc3_len D5.out.2.2.2.1 HL.out, below_rd HB1.out D5.out.2.2.1⟩
end Go.Proofs.Ytdfgogcefnamcaa
