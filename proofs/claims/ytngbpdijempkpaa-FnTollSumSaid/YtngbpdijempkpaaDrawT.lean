/- Contracts: the draws of tolls. -/
import Derived.Test.YtngbpdijempkpaaDrawI
set_option linter.unusedVariables false
namespace Go.Proofs.Ytngbpdijempkpaa
open Go.RowKit

/-- Gates, free miles and a way have been drawn. -/
def DrewT (w : World) (e : Ending) (w' : World) : Prop :=
  ∃ v xs free x y, e = .returned (.tuple #[v, .int .i64 free, .int .i64 x, .int .i64 y]) ∧ xs.length ≤ 8 ∧ (-2000 ≤ free ∧ free ≤ 2000) ∧ (-2000 ≤ x ∧ x ≤ 2000) ∧ (-2000 ≤ y ∧ y ≤ 2000) ∧ OwnE 3 enc3 31 w.heap.size w' v xs ∧ Below w.heap.size w w'

set_option maxRecDepth 20000 in
set_option maxHeartbeats 1600000 in
theorem drawTollMust_any (A : Option Addr) (n c : Nat) (bs : List Int) (w : World) (h : SlE 1 encU w A n bs) (hb : Bytes bs) (hn : n ≤ 1048576) (hc : n ≤ c) :
    Calls Try.prog 17 #[.slice A n c] w (DrewT w) := by
  have H := Lib.hid h
  have HB := Lib.hid hb
  clear h hb
  go_enter Try.func17, Try.ntmps17
  go_wp2_with fail
  refine (l6Open_any A n c bs w H.out HB.out hn hc).mono ?_
  rintro e w1 ⟨rfl, hr, hb1, hs1⟩
  have HR := Lib.hid hr
  have HB1 := Lib.hid hb1
  clear hr hb1 H HB
  go_wp2_with fail
  refine (l93Toll_any w.heap.size 0 w1 HR.out (by omega)).mono ?_
  rintro e w2 ⟨v, xs, free, x, y, rfl, hl, hf, hx, hy, hd⟩
  have D2 := Lib.hid hd
  clear hd HR
  go_wp2_with fail
  (try simp only [Exit.inBlock, Exit.then])
  refine bodyPost_ret (results_tmp4 rfl _ _ _) rfl ?_
  exact ⟨v, xs, free, x, y, rfl, hl, hf, hx, hy, D2.out.2.2.2.1.base_le (by omega), below_rd HB1.out D2.out.2.2.1⟩

set_option maxRecDepth 20000 in
set_option maxHeartbeats 1600000 in
theorem drawTollLeast_any (A : Option Addr) (n c : Nat) (bs : List Int) (w : World) (h : SlE 1 encU w A n bs) (hb : Bytes bs) (hn : n ≤ 1048576) (hc : n ≤ c) :
    Calls Try.prog 30 #[.slice A n c] w (DrewT w) := by
  have H := Lib.hid h
  have HB := Lib.hid hb
  clear h hb
  go_enter Try.func30, Try.ntmps30
  go_wp2_with fail
  refine (l6Open_any A n c bs w H.out HB.out hn hc).mono ?_
  rintro e w1 ⟨rfl, hr, hb1, hs1⟩
  have HR := Lib.hid hr
  have HB1 := Lib.hid hb1
  clear hr hb1 H HB
  go_wp2_with fail
  refine (l93Toll_any w.heap.size 0 w1 HR.out (by omega)).mono ?_
  rintro e w2 ⟨v, xs, free, x, y, rfl, hl, hf, hx, hy, hd⟩
  have D2 := Lib.hid hd
  clear hd HR
  go_wp2_with fail
  (try simp only [Exit.inBlock, Exit.then])
  refine bodyPost_ret (results_tmp4 rfl _ _ _) rfl ?_
  exact ⟨v, xs, free, x, y, rfl, hl, hf, hx, hy, D2.out.2.2.2.1.base_le (by omega), below_rd HB1.out D2.out.2.2.1⟩

set_option maxRecDepth 20000 in
set_option maxHeartbeats 1600000 in
theorem drawTollBest_any (A : Option Addr) (n c : Nat) (bs : List Int) (w : World) (h : SlE 1 encU w A n bs) (hb : Bytes bs) (hn : n ≤ 1048576) (hc : n ≤ c) :
    Calls Try.prog 39 #[.slice A n c] w (DrewT w) := by
  have H := Lib.hid h
  have HB := Lib.hid hb
  clear h hb
  go_enter Try.func39, Try.ntmps39
  go_wp2_with fail
  refine (l6Open_any A n c bs w H.out HB.out hn hc).mono ?_
  rintro e w1 ⟨rfl, hr, hb1, hs1⟩
  have HR := Lib.hid hr
  have HB1 := Lib.hid hb1
  clear hr hb1 H HB
  go_wp2_with fail
  refine (l93Toll_any w.heap.size 0 w1 HR.out (by omega)).mono ?_
  rintro e w2 ⟨v, xs, free, x, y, rfl, hl, hf, hx, hy, hd⟩
  have D2 := Lib.hid hd
  clear hd HR
  go_wp2_with fail
  (try simp only [Exit.inBlock, Exit.then])
  refine bodyPost_ret (results_tmp4 rfl _ _ _) rfl ?_
  exact ⟨v, xs, free, x, y, rfl, hl, hf, hx, hy, D2.out.2.2.2.1.base_le (by omega), below_rd HB1.out D2.out.2.2.1⟩

set_option maxRecDepth 20000 in
set_option maxHeartbeats 1600000 in
theorem drawTollEach_any (A : Option Addr) (n c : Nat) (bs : List Int) (w : World) (h : SlE 1 encU w A n bs) (hb : Bytes bs) (hn : n ≤ 1048576) (hc : n ≤ c) :
    Calls Try.prog 35 #[.slice A n c] w (DrewT w) := by
  have H := Lib.hid h
  have HB := Lib.hid hb
  clear h hb
  go_enter Try.func35, Try.ntmps35
  go_wp2_with fail
  refine (l6Open_any A n c bs w H.out HB.out hn hc).mono ?_
  rintro e w1 ⟨rfl, hr, hb1, hs1⟩
  have HR := Lib.hid hr
  have HB1 := Lib.hid hb1
  clear hr hb1 H HB
  go_wp2_with fail
  refine (l93Toll_any w.heap.size 0 w1 HR.out (by omega)).mono ?_
  rintro e w2 ⟨v, xs, free, x, y, rfl, hl, hf, hx, hy, hd⟩
  have D2 := Lib.hid hd
  clear hd HR
  go_wp2_with fail
  (try simp only [Exit.inBlock, Exit.then])
  refine bodyPost_ret (results_tmp4 rfl _ _ _) rfl ?_
  exact ⟨v, xs, free, x, y, rfl, hl, hf, hx, hy, D2.out.2.2.2.1.base_le (by omega), below_rd HB1.out D2.out.2.2.1⟩
end Go.Proofs.Ytngbpdijempkpaa
