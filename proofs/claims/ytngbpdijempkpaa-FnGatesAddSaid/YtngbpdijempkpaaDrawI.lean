/- Contracts: DrawGatesDrop and l93Toll. -/
import Derived.Test.YtngbpdijempkpaaDrawH
set_option linter.unusedVariables false
namespace Go.Proofs.Ytngbpdijempkpaa
open Go.RowKit

theorem below_rd {w w1 w' : World} (hb : Below w.heap.size w w1) (hg : w1.grownBy w' (some w.heap.size)) : Below w.heap.size w w' :=
  hb.grown hg hb.size (fun j hj => by injection hj with hj; omega)
/-- Gates and a number have been drawn. -/
def DrewI (a b : Int) (w : World) (e : Ending) (w' : World) : Prop :=
  ∃ v xs k, e = .returned (.tuple #[v, .int .i64 k]) ∧ xs.length ≤ 8 ∧ Sm xs ∧ a ≤ k ∧ k ≤ b ∧ OwnE 3 enc3 31 w.heap.size w' v xs ∧ Below w.heap.size w w'

set_option maxRecDepth 20000 in
set_option maxHeartbeats 1600000 in
theorem drawDrop_any (A : Option Addr) (n c : Nat) (bs : List Int) (w : World) (h : SlE 1 encU w A n bs) (hb : Bytes bs) (hn : n ≤ 1048576) (hc : n ≤ c) :
    Calls Try.prog 12 #[.slice A n c] w (DrewI (-1) 8 w) := by
  have H := Lib.hid h
  have HB := Lib.hid hb
  clear h hb
  go_enter Try.func12, Try.ntmps12
  go_wp2_with fail
  refine (l6Open_any A n c bs w H.out HB.out hn hc).mono ?_
  rintro e w1 ⟨rfl, hr, hb1, hs1⟩
  have HR := Lib.hid hr
  have HB1 := Lib.hid hb1
  clear hr hb1 H HB
  go_wp2_with fail
  refine (l93Gates_any w.heap.size 0 w1 HR.out (by omega)).mono ?_
  rintro e w2 ⟨v, xs, rfl, hl, hd⟩
  have D2 := Lib.hid hd
  clear hd HR
  obtain ⟨A', c', rfl, -, -⟩ := D2.out.2.2.2.1.slc enc3_len rfl
  go_wp2_with fail
  refine (l92At_any w.heap.size (0 + 40) xs.length w2 D2.out.2.1 (by omega) (by omega)).mono ?_
  rintro e w3 ⟨k, rfl, k0, k1, hr, hg⟩
  have D3 := Lib.hid (D2.out.pick hr hg)
  clear hr hg D2
  go_wp2_with fail
  go_ret2
  exact ⟨_, xs, k, rfl, hl, D3.out.2.2.2.2, k0, by omega, D3.out.2.2.2.1.base_le (by omega), below_rd HB1.out D3.out.2.2.1⟩

theorem results_tmp4 {fn : Func} {t u v x : Tmp} (h : fn.results = #[.tmp t, .tmp u, .tmp v, .tmp x]) (tmps : Array Value) (P : Program) (w : World) :
    (results fn tmps).run P w = .ok (.tuple #[tmps.getD t undef, tmps.getD u undef, tmps.getD v undef, tmps.getD x undef]) w := by
  simp [results, h]
/-- How l93Toll ends. -/
def DrawnT (w : World) (R m : Nat) (e : Ending) (w' : World) : Prop :=
  ∃ v xs free x y, e = .returned (.tuple #[v, .int .i64 free, .int .i64 x, .int .i64 y]) ∧ xs.length ≤ 8 ∧ (-2000 ≤ free ∧ free ≤ 2000) ∧ (-2000 ≤ x ∧ x ≤ 2000) ∧ (-2000 ≤ y ∧ y ≤ 2000) ∧ DG w R m v xs w'
set_option maxRecDepth 20000 in
set_option maxHeartbeats 3200000 in
theorem l93Toll_any (R m : Nat) (w : World) (h : RdAt w R m) (hm : m ≤ 40000) :
    Calls Try.prog 52 #[.pointer (some ⟨R, 0, none⟩)] w (DrawnT w R (m + 50)) := by
  have H := Lib.hid h
  have hRw := h.lt
  clear h
  go_enter Try.func52, Try.ntmps52
  go_wp2_with fail
  refine (l93Gates_any R m w H.out (by omega)).mono ?_
  rintro e w2 ⟨v, xs, rfl, hl, hd⟩
  have D2 := Lib.hid hd
  clear hd H
  go_wp2_with fail
  refine (l93Way_any R (m + 40) w2 D2.out.2.1 (by omega)).mono ?_
  rintro e w3 ⟨x, y, rfl, x0, x1, y0, y1, hr, hg⟩
  have D3 := Lib.hid (D2.out.pick hr hg)
  clear hr hg D2
  go_wp2_with fail
  refine (pick_any R (m + 40 + 3) 45 w3 D3.out.2.1 (by omega) (by omega)).mono ?_
  rintro e w4 ⟨f, rfl, f0, f1, -, hr, hg⟩
  have f1 := f1 (by omega)
  have D4 := Lib.hid (D3.out.pick hr hg)
  clear hr hg D3
  go_wp2_with fail
  refine (pick_any R (m + 40 + 3 + 1) 20 w4 D4.out.2.1 (by omega) (by omega)).mono ?_
  rintro e w5 ⟨g, rfl, g0, g1, -, hr, hg⟩
  have D5 := Lib.hid (D4.out.pick hr hg)
  clear hr hg D4
  by_cases e0 : g = 0
  · go_wp2_with fail
    refine (pick_any R (m + 40 + 3 + 1 + 1) 4 _ (D5.out.alloc _).2.1 (by omega) (by omega)).mono ?_
    rintro e w6 ⟨q, rfl, q0, q1, -, hr, hg⟩
    have q1 := q1 (by omega)
    obtain ⟨q, rfl⟩ : ∃ i : Nat, q = i := ⟨q.toNat, by omega⟩
    obtain ⟨z, hz, hzm⟩ := lit_at [-1, 999, 1000, 0] _ rfl (by simp) hg (Nat.lt_of_lt_of_le hRw D5.out.size) (x := q) (by simp; omega)
    have hz01 : -1 ≤ z ∧ z ≤ 1000 := by simp at hzm; omega
    have D6 := Lib.hid ((D5.out.alloc _).pick hr hg)
    clear hr hg hzm D5
    go_wp2_with fail
    (try simp only [Exit.inBlock, Exit.then])
    refine bodyPost_ret (results_tmp4 rfl _ _ _) rfl ?_
    exact ⟨v, xs, z, x, y, rfl, hl, by omega, by omega, by omega, D6.out.1, D6.out.2.1.mono (by omega), D6.out.2.2⟩
  · go_wp2_with fail
    (try simp only [Exit.inBlock, Exit.then])
    refine bodyPost_ret (results_tmp4 rfl _ _ _) rfl ?_
    exact ⟨v, xs, f, x, y, rfl, hl, by omega, by omega, by omega, D5.out.1, D5.out.2.1.mono (by omega), D5.out.2.2⟩
end Go.Proofs.Ytngbpdijempkpaa
