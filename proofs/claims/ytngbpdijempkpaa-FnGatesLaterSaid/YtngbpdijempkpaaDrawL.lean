/- Contracts: DrawGatesLater. -/
import Derived.Test.YtngbpdijempkpaaDrawI
set_option linter.unusedVariables false
namespace Go.Proofs.Ytngbpdijempkpaa
open Go.RowKit

set_option maxRecDepth 20000 in
set_option maxHeartbeats 3200000 in
theorem drawLater_any (A : Option Addr) (n c : Nat) (bs : List Int) (w : World) (h : SlE 1 encU w A n bs) (hb : Bytes bs) (hn : n ≤ 1048576) (hc : n ≤ c) :
    Calls Try.prog 26 #[.slice A n c] w (DrewI (-9223372036854775808) 9223372036854775807 w) := by
  have H := Lib.hid h
  have HB := Lib.hid hb
  clear h hb
  go_enter Try.func26, Try.ntmps26
  go_wp2_with fail
  refine (l6Open_any A n c bs w H.out HB.out hn hc).mono ?_
  rintro e w1 ⟨rfl, hr, hb1, hs1⟩
  have HR := Lib.hid hr
  have HB1 := Lib.hid hb1
  clear hr hb1 H HB
  go_wp2_with fail
  refine (l93Gates_any w.heap.size 0 w1 HR.out (by omega)).mono ?_
  rintro e w2 ⟨v, xs, rfl, hl, hd⟩
  have D2 := Lib.hid hd
  clear hd HR
  go_wp2_with fail
  refine (pick_any w.heap.size (0 + 40) 16 w2 D2.out.2.1 (by omega) (by omega)).mono ?_
  rintro e w3 ⟨x1, rfl, a0, a1, -, hr, hg⟩
  have D3 := Lib.hid (D2.out.pick hr hg)
  clear hr hg D2
  by_cases e0 : x1 = 0
  · have hLb : ∀ (x : Int), 0 ≤ x → x < 3 → ∃ (n : Nat) (z : Int), x = n ∧ n < 3 ∧ -9223372036854775808 ≤ z ∧ z ≤ 9223372036854775807 ∧ ∀ (W W' : World), w.heap.size < W.heap.size → (W.alloc (.cells #[.int .i64 9223372036854775807, .int .i64 (-9223372036854775808), .int .i64 990] 3)).grownBy W' (some w.heap.size) → W'.cell? ⟨W.heap.size, n, none⟩ = some (.int .i64 z) := fun x h3 h4 => by
      obtain ⟨x, rfl⟩ : ∃ i : Nat, x = i := ⟨x.toNat, by omega⟩
      have hl : x < ([9223372036854775807, -9223372036854775808, 990] : List Int).length := by simp; omega
      have hm := List.getElem_mem hl
      refine ⟨x, ([9223372036854775807, -9223372036854775808, 990] : List Int)[x], rfl, by omega, ?_, ?_, fun W W' h1 h2 => lit_is [9223372036854775807, -9223372036854775808, 990] _ rfl (by simp) h2 h1 (List.getElem?_eq_getElem hl)⟩
      all_goals generalize ([9223372036854775807, -9223372036854775808, 990] : List Int)[x] = z at hm ⊢; simp at hm; omega
    have HLb := Lib.hid hLb
    have hR3 : w.heap.size < w3.heap.size := Nat.lt_of_lt_of_le hs1 D3.out.size
    have D3d := Lib.hid D3.out.drew
    have D3a := Lib.hid (D3.out.alloc (.cells #[.int .i64 9223372036854775807, .int .i64 (-9223372036854775808), .int .i64 990] 3)).drew
    clear hLb
    go_wp2_with fail
    go_region_with (first
      | (go_at_call 63; refine (pick_any w.heap.size (0 + 40 + 1) 3 _ D3a.out.2.1 (by omega) (by omega)).mono ?_; rintro e w4 ⟨x3, rfl, c0, c1, -, hr, hg⟩; obtain ⟨x3, z, rfl, hx3, z0, z1, hzz⟩ := HLb.out x3 c0 (c1 (by omega)); have hza := hzz _ _ hR3 (grown_undrew hg); have D4 := Lib.hid (D3a.out.pick hr hg); clear c0 c1 hr hg hzz)
      | (go_at_call 63; refine (pick_any w.heap.size (0 + 40 + 1) 3 _ D3d.out.2.1 (by omega) (by omega)).mono ?_; rintro e w4 ⟨x3, rfl, c0, c1, -, hr, hg⟩; obtain ⟨x3, z, rfl, hx3, z0, z1, hzz⟩ := HLb.out x3 c0 (c1 (by omega)); have hzb := hzz w4 _ hr.lt (grown_refl _ _); have D4 := Lib.hid ((D3d.out.pick hr hg).alloc (.cells #[.int .i64 9223372036854775807, .int .i64 (-9223372036854775808), .int .i64 990] 3)); clear c0 c1 hr hg hzz)
      | fail)
    all_goals
      go_wp2_with fail
      go_ret2
      exact ⟨v, xs, z, rfl, hl, D4.out.2.2.2.2, z0, z1, D4.out.2.2.2.1.base_le (by omega), below_rd HB1.out D4.out.2.2.1⟩
  · go_wp2_with fail
    refine (pick_any w.heap.size (0 + 40 + 1) 61 w3 D3.out.2.1 (by omega) (by omega)).mono ?_
    rintro e w4 ⟨x2, rfl, b0, b1, -, hr, hg⟩
    have b1 := b1 (by omega)
    have D4 := Lib.hid (D3.out.pick hr hg)
    clear hr hg D3
    go_wp2_with fail
    go_ret2
    exact ⟨v, xs, x2 - 20, rfl, hl, D4.out.2.2.2.2, by omega, by omega, D4.out.2.2.2.1.base_le (by omega), below_rd HB1.out D4.out.2.2.1⟩
end Go.Proofs.Ytngbpdijempkpaa
