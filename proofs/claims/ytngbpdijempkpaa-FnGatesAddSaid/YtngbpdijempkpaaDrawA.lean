/- Contracts: DrawGatesAdd. -/
import Derived.Test.YtngbpdijempkpaaDrawI
import Derived.Test.YtngbpdijempkpaaTWalkE
import Derived.Test.YtngbpdijempkpaaCells
import Derived.Test.YtngbpdijempkpaaGWalkE
set_option linter.unusedVariables false
namespace Go.Proofs.Ytngbpdijempkpaa
open Go.RowKit

/-- Gates and one gate have been drawn. -/
def DrewA (w : World) (e : Ending) (w' : World) : Prop :=
  ∃ v xs x y z, e = .returned (.tuple #[v, .agg #[.int .i64 x, .int .i64 y, .int .i64 z]]) ∧ xs.length ≤ 8 ∧ (0 ≤ x ∧ x < 120) ∧ (0 ≤ y ∧ y < 4) ∧ (1 ≤ z ∧ z ≤ 12) ∧ OwnE 3 enc3 31 w.heap.size w' v xs ∧ Below w.heap.size w w'

set_option maxRecDepth 20000 in
set_option maxHeartbeats 3200000 in
theorem drawAdd_any (A : Option Addr) (n c : Nat) (bs : List Int) (w : World) (h : SlE 1 encU w A n bs) (hb : Bytes bs) (hn : n ≤ 1048576) (hc : n ≤ c) :
    Calls Try.prog 32 #[.slice A n c] w (DrewA w) := by
  have H := Lib.hid h
  have HB := Lib.hid hb
  clear h hb
  go_enter Try.func32, Try.ntmps32
  go_wp2_with fail
  refine (l6Open_any A n c bs _ (H.out.alloc _) HB.out hn hc).mono ?_
  rintro e w1 ⟨rfl, hr, hb1, hs1⟩
  have X1 := Lib.hid ((boxAt_new w 0 0 0).below hb1 (Nat.le_refl _))
  have Z := Lib.hid (box_below w _ w1 (by rw [show (w.alloc (.cells #[.int .i64 0, .int .i64 0, .int .i64 0] 31)).heap.size = w.heap.size + 1 by simp] at hb1; exact hb1))
  have hzz : (w.alloc (.cells #[.int .i64 0, .int .i64 0, .int .i64 0] 31)).heap.size = w.heap.size + 1 := by simp
  rw [hzz] at hr hs1
  have HR := Lib.hid hr
  clear hr hb1 H HB hzz
  go_wp2_with fail
  refine (l93Gates_any (w.heap.size + 1) 0 w1 HR.out (by omega)).mono ?_
  rintro e w2 ⟨v, xs, rfl, hl, hd⟩
  have D2 := Lib.hid hd
  clear hd HR
  go_wp2_with fail
  refine (pick_any (w.heap.size + 1) (0 + 40) 120 w2 D2.out.2.1 (by omega) (by omega)).mono ?_
  rintro e w3 ⟨x, rfl, a0, a1, -, hr, hg⟩
  have a1 := a1 (by omega)
  have D3 := Lib.hid (D2.out.pick hr hg)
  clear hr hg D2
  go_wp2_with fail
  refine (pick_any (w.heap.size + 1) (0 + 40 + 1) 4 w3 D3.out.2.1 (by omega) (by omega)).mono ?_
  rintro e w4 ⟨y, rfl, b0, b1, -, hr, hg⟩
  have b1 := b1 (by omega)
  have D4 := Lib.hid (D3.out.pick hr hg)
  clear hr hg D3
  go_wp2_with fail
  refine (pick_any (w.heap.size + 1) (0 + 40 + 1 + 1) 12 w4 D4.out.2.1 (by omega) (by omega)).mono ?_
  rintro e w5 ⟨z, rfl, c0, c1, -, hr, hg⟩
  have c1 := c1 (by omega)
  have D5 := Lib.hid (D4.out.pick hr hg)
  clear hr hg D4
  have X5 := Lib.hid (X1.out.apart D5.out.2.2.1 (by simp))
  have s3 := own3_set (j := 0) X5.out rfl (by omega) x y (1 + z)
  have hne : v.ownBlock = none ∨ v.ownBlock ≠ some w.heap.size := by
    by_cases e : v.ownBlock = some w.heap.size
    · have := (D5.out.2.2.2.1.lt _ e).1
      omega
    · exact .inr e
  have O6 := Lib.hid (OwnE.apart D5.out.2.2.2.1 s3.2 hne)
  have Z5 := Lib.hid (Z.out.grown D5.out.2.2.1 Z.out.size (fun j hj => by injection hj with hj; omega))
  have B6 := Lib.hid (Z5.out.grown s3.2 Z5.out.size (fun j hj => by injection hj with hj; omega))
  have X6 := Lib.hid s3.1
  obtain ⟨q0, q1, q2⟩ := X5.out.cells
  have hfz := OwnE.frozen X5.out
  clear s3 hne
  go_wp2_with fail
  have Y6 := X6.out
  obtain ⟨r0, r1, r2⟩ := OwnE.cell3 Y6 (j := 0) (x := x) (y := y) (z := 1 + z) rfl
  refine bodyPost_ret (v := .tuple #[v, .agg #[.int .i64 x, .int .i64 y, .int .i64 (1 + z)]]) (by simp [results, Try.results32, go_sem, r0, r1, r2]) rfl ?_
  exact ⟨v, xs, x, y, 1 + z, rfl, hl, ⟨a0, a1⟩, ⟨b0, b1⟩, ⟨by omega, by omega⟩, O6.out.base_le (by omega), B6.out⟩
end Go.Proofs.Ytngbpdijempkpaa
