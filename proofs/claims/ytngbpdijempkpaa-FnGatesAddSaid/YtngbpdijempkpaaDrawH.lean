/- Contracts: l92At and l93Way. -/
import Derived.Test.YtngbpdijempkpaaDrawG
set_option linter.unusedVariables false
namespace Go.Proofs.Ytngbpdijempkpaa
open Go.RowKit

theorem grown_refl (w : World) (row : Option Nat) : w.grownBy w row := ⟨rfl, rfl, rfl, Nat.le_refl _, fun _ _ _ => rfl⟩
/-- How a draw of one number ends. -/
def DrawnI (w : World) (R m : Nat) (a b : Int) (e : Ending) (w' : World) : Prop :=
  ∃ x : Int, e = .returned (.int .i64 x) ∧ a ≤ x ∧ x ≤ b ∧ RdAt w' R m ∧ w.grownBy w' (some R)
/-- How a draw of a way ends. -/
def DrawnW (w : World) (R m : Nat) (e : Ending) (w' : World) : Prop :=
  ∃ x y : Int, e = .returned (.tuple #[.int .i64 x, .int .i64 y]) ∧ -2000 ≤ x ∧ x ≤ 2000 ∧ -2000 ≤ y ∧ y ≤ 2000 ∧ RdAt w' R m ∧ w.grownBy w' (some R)
theorem rd_alloc {w : World} {R m : Nat} (h : RdAt w R m) (o : Obj) : RdAt (w.alloc o) R m := h.below (below_alloc (Below.refl _ w) o) (Nat.le_refl _)
theorem grown_ofalloc {w W : World} {row : Option Nat} {o : Obj} (h : (w.alloc o).grownBy W row) : w.grownBy W row := grown_trans (grown_alloc (grown_refl w row) o) h

theorem lit_is {w w' : World} {R ty : Nat} (xs : List Int) (cs : Array Value) (hcs : cs.toList = xs.flatMap encI) (hm : xs.length ≤ 8) (hg : (w.alloc (.cells cs ty)).grownBy w' (some R)) (hR : R < w.heap.size) {x : Nat} {z : Int} (hx : xs[x]? = some z) :
    w'.cell? ⟨w.heap.size, x, none⟩ = some (.int .i64 z) := by
  have h1 := own_new (enc := encI) (k := 1) w ty w.heap.size (Nat.le_refl _) encI_len xs cs hcs (by unfold maxLen; omega) rfl
  have h2 := OwnE.apart h1 hg (.inr fun e => by injection e with e; have e : w.heap.size = R := e; omega)
  exact OwnE.cell1 h2 hx

set_option maxRecDepth 20000 in
set_option maxHeartbeats 1600000 in
theorem l92At_any (R m n : Nat) (w : World) (h : RdAt w R m) (hm : m ≤ 50000) (hn : n ≤ 1000) :
    Calls Try.prog 47 #[.pointer (some ⟨R, 0, none⟩), .int .i64 n] w (DrawnI w R (m + 3) (-1) n) := by
  have H := Lib.hid h
  have hR := h.lt
  clear h
  have fin : ∀ (W : World) (k : Nat) (a : Int), k ≤ 2 → RdAt W R (m + k) → w.grownBy W (some R) → (Calls Try.prog 63 #[.pointer (some ⟨R, 0, none⟩), .int .i64 2] (W.alloc (.cells #[.int .i64 (-1), .int .i64 n] 3))) (fun e w' => ∃ (x : Nat) (z : Int), e = .returned (.int .i64 x) ∧ x < 2 ∧ -1 ≤ z ∧ z ≤ n ∧ w'.cell? ⟨W.heap.size, x, none⟩ = some (.int .i64 z) ∧ RdAt w' R (m + 3) ∧ w.grownBy w' (some R)) := fun W k a hk hr hg => by
    refine (pick_any R (m + k) 2 _ (rd_alloc hr _) (by omega) (by omega)).mono ?_
    rintro e w' ⟨x, rfl, a0, a1, -, hr', hg'⟩
    have a1 := a1 (by omega)
    obtain ⟨x, rfl⟩ : ∃ i : Nat, x = i := ⟨x.toNat, by omega⟩
    obtain ⟨z, hz, hzm⟩ := lit_at [-1, (n : Int)] _ rfl (by simp) hg' (Nat.lt_of_lt_of_le hR hg.size) (x := x) (by simp; omega)
    simp at hzm
    exact ⟨x, z, rfl, by omega, by omega, by omega, hz, hr'.mono (by omega), grown_trans hg (grown_ofalloc hg')⟩
  have FIN := Lib.hid fin
  clear fin
  by_cases hn0 : n = 0
  · have hn1 : ((n : Int) == 0) = true := by simp [hn0]
    clear hn0
    go_enter Try.func47, Try.ntmps47
    go_wp2_with fail
    refine (FIN.out w 0 0 (by omega) H.out (grown_refl _ _)).mono ?_
    rintro e w' ⟨x, z, rfl, a0, z0, z1, hz, hr, hg⟩
    have HR := Lib.hid hr
    have HG := Lib.hid hg
    clear hr hg H
    go_wp2_with fail
    go_ret
    exact ⟨z, rfl, z0, z1, HR.out, HG.out⟩
  · have hn1 : ((n : Int) == 0) = false := by simp; omega
    go_enter Try.func47, Try.ntmps47
    go_wp2_with fail
    refine (pick_any R m 20 w H.out (by omega) (by omega)).mono ?_
    rintro e w1 ⟨x1, rfl, a0, a1, -, hr, hg⟩
    have HR := Lib.hid hr
    have HG := Lib.hid hg
    clear hr hg H
    by_cases h0 : x1 = 0
    · go_wp2_with fail
      refine (FIN.out w1 1 0 (by omega) HR.out HG.out).mono ?_
      rintro e w' ⟨x, z, rfl, b0, z0, z1, hz, hr, hg⟩
      have HR' := Lib.hid hr
      have HG' := Lib.hid hg
      clear hr hg HR HG
      go_wp2_with fail
      go_ret
      exact ⟨z, rfl, z0, z1, HR'.out, HG'.out⟩
    · have h1 : (x1 == 0) = false := by simp; omega
      go_wp2_with fail
      refine (pick_any R (m + 1) n w1 HR.out (by omega) (by omega)).mono ?_
      rintro e w2 ⟨x2, rfl, b0, b1, -, hr, hg⟩
      have HR' := Lib.hid (hr.mono (m' := m + 3) (by omega))
      have HG' := Lib.hid (grown_trans HG.out hg)
      clear hr hg HR HG
      go_wp2_with fail
      go_ret
      exact ⟨x2, rfl, by omega, by omega, HR'.out, HG'.out⟩

set_option maxRecDepth 20000 in
set_option maxHeartbeats 3200000 in
theorem l93Way_any (R m : Nat) (w : World) (h : RdAt w R m) (hm : m ≤ 50000) :
    Calls Try.prog 70 #[.pointer (some ⟨R, 0, none⟩)] w (DrawnW w R (m + 3)) := by
  have H := Lib.hid h
  have hR := h.lt
  clear h
  go_enter Try.func70, Try.ntmps70
  go_wp2_with fail
  refine (pick_any R m 20 w H.out (by omega) (by omega)).mono ?_
  rintro e w1 ⟨x1, rfl, a0, a1, -, hr, hg⟩
  have HR := Lib.hid hr
  have HG := Lib.hid hg
  have hR1 := hr.lt
  clear hr hg H
  by_cases h0 : x1 = 0
  · have hLb : ∀ (x : Int), 0 ≤ x → x < 3 → ∃ (n : Nat) (z : Int), x = n ∧ n < 3 ∧ -1 ≤ z ∧ z ≤ 50 ∧ ∀ (W W' : World), R < W.heap.size → (W.alloc (.cells #[.int .i64 (-1), .int .i64 0, .int .i64 50] 3)).grownBy W' (some R) → W'.cell? ⟨W.heap.size, n, none⟩ = some (.int .i64 z) := fun x h3 h4 => by
      obtain ⟨x, rfl⟩ : ∃ i : Nat, x = i := ⟨x.toNat, by omega⟩
      have hl : x < ([-1, 0, 50] : List Int).length := by simp; omega
      have hm := List.getElem_mem hl
      refine ⟨x, ([-1, 0, 50] : List Int)[x], rfl, by omega, ?_, ?_, fun W W' h1 h2 => lit_is [-1, 0, 50] _ rfl (by simp) h2 h1 (List.getElem?_eq_getElem hl)⟩
      all_goals generalize ([-1, 0, 50] : List Int)[x] = z at hm ⊢; simp at hm; omega
    have HLb := Lib.hid hLb
    clear hLb
    go_wp2_with fail
    have R1 := Lib.hid (show RdAt w1.drew R (m + 1) from HR.out)
    have G1 := Lib.hid (show w.grownBy w1.drew (some R) from ⟨HG.out.os, HG.out.tape, HG.out.output, HG.out.size, HG.out.block⟩)
    have RA := Lib.hid (show RdAt (w1.alloc (.cells #[.int .i64 (-1), .int .i64 0, .int .i64 50] 3)).drew R (m + 1) from rd_alloc HR.out _)
    go_region_with (first
      | (go_at_call 63; (with_reducible_and_instances refine (pick_any R (m + 1) 3 _ RA.out (by omega) (by omega)).mono ?_); rintro e w4 ⟨x3, rfl, c0, c1, -, hr, hg⟩; obtain ⟨x3, z, rfl, hx3, z0, z1, hzz⟩ := HLb.out x3 c0 (c1 (by omega)); have hza := hzz _ _ hR1 (grown_undrew hg); have R4 := Lib.hid hr; have G4 := Lib.hid (grown_trans HG.out (grown_ofalloc (grown_undrew hg))); have hs4 : w1.heap.size < w4.heap.size := Nat.lt_of_lt_of_le (by simp) (grown_undrew hg).size; clear c0 c1 hr hg hzz)
      | (go_at_call 63; (with_reducible_and_instances refine (pick_any R (m + 1) 3 _ R1.out (by omega) (by omega)).mono ?_); rintro e w4 ⟨x3, rfl, c0, c1, -, hr, hg⟩; obtain ⟨x3, z, rfl, hx3, z0, z1, hzz⟩ := HLb.out x3 c0 (c1 (by omega)); have hzb := hzz w4 _ hr.lt (grown_refl _ _); have HZZ := Lib.hid hzz; have R4 := Lib.hid hr; have G4 := Lib.hid (grown_trans G1.out hg); have R4a := Lib.hid (rd_alloc hr (.cells #[.int .i64 (-1), .int .i64 0, .int .i64 50] 3)); clear c0 c1 hr hg hzz)
      | (go_at_call 63; (with_reducible_and_instances refine (pick_any R (m + 1 + 1) 2 _ R4.out (by omega) (by omega)).mono ?_); rintro e w5 ⟨x4, rfl, d0, d1, -, hr, hg⟩; have d1 := d1 (by omega); have hz5 := (grown_cell hg hs4 (by intro e; injection e with e; omega)).trans hza; have R5 := Lib.hid hr; have G5 := Lib.hid (grown_trans G4.out hg); clear hr hg)
      | (go_at_call 63; (with_reducible_and_instances refine (pick_any R (m + 1 + 1) 2 _ R4.out (by omega) (by omega)).mono ?_); rintro e w5 ⟨x4, rfl, d0, d1, -, hr, hg⟩; have d1 := d1 (by omega); have hz5 := HZZ.out w5 _ hr.lt (grown_refl _ _); have R5 := Lib.hid (rd_alloc hr (.cells #[.int .i64 (-1), .int .i64 0, .int .i64 50] 3)); have G5 := Lib.hid (grown_alloc (grown_trans G4.out hg) (.cells #[.int .i64 (-1), .int .i64 0, .int .i64 50] 3)); clear hr hg)
      | (go_at_call 63; (with_reducible_and_instances refine (pick_any R (m + 1 + 1) 2 _ R4a.out (by omega) (by omega)).mono ?_); rintro e w5 ⟨x4, rfl, d0, d1, -, hr, hg⟩; have d1 := d1 (by omega); have hz5 := HZZ.out w4 _ R4.out.lt hg; have R5 := Lib.hid hr; have G5 := Lib.hid (grown_trans G4.out (grown_ofalloc hg)); clear hr hg)
      | fail)
    all_goals
      go_wp2_with fail
      go_ret2
      exact ⟨z, _, rfl, by omega, by omega, by first | omega | (rw [IntWalk.i64_in _ (by omega)]; omega), by first | omega | (rw [IntWalk.i64_in _ (by omega)]; omega), R5.out, G5.out⟩
  · by_cases h1 : x1 = 1
    · go_wp2_with fail
      go_ret2
      exact ⟨40, 20, rfl, by omega, by omega, by omega, by omega, HR.out.mono (by omega), HG.out⟩
    · go_wp2_with fail
      refine (pick_any R (m + 1) 40 w1 HR.out (by omega) (by omega)).mono ?_
      rintro e w2 ⟨x2, rfl, b0, b1, -, hr, hg⟩
      have b1 := b1 (by omega)
      have HR2 := Lib.hid hr
      have HG2 := Lib.hid (grown_trans HG.out hg)
      clear hr hg HR HG
      go_wp2_with fail
      refine (pick_any R (m + 1 + 1) 140 w2 HR2.out (by omega) (by omega)).mono ?_
      rintro e w3 ⟨x3, rfl, c0, c1, -, hr, hg⟩
      have c1 := c1 (by omega)
      have HR3 := Lib.hid hr
      have HG3 := Lib.hid (grown_trans HG2.out hg)
      clear hr hg HR2 HG2
      go_wp2_with fail
      go_ret2
      exact ⟨x2, 40 + x3, rfl, by omega, by omega, by omega, by omega, HR3.out, HG3.out⟩
end Go.Proofs.Ytngbpdijempkpaa
