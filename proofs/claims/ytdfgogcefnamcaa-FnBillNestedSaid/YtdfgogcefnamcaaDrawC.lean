/- Contracts: the draws of a way-bill alone. -/
import Derived.Test.YtdfgogcefnamcaaDrawB
set_option linter.unusedVariables false
namespace Go.Proofs.Ytdfgogcefnamcaa
open Go.RowKit

theorem below_rd {w w1 w' : World} (hb : Below w.heap.size w w1) (hg : w1.grownBy w' (some w.heap.size)) : Below w.heap.size w w' :=
  hb.grown hg hb.size (fun j hj => by injection hj with hj; omega)
theorem bl_drewN {B : Nat} {a b : World} (h : Below B a b) (n : Nat) : Below B a (b.drewN n) := ⟨h.os, h.tape, h.output, h.size, h.block⟩
/-- A number of legs and a way-bill have been drawn. -/
def DrewB (w : World) (e : Ending) (w' : World) : Prop :=
  ∃ n v xs, e = .returned (.tuple #[.int .i64 n, v]) ∧ 1 ≤ n ∧ n ≤ 6 ∧ xs.length ≤ 8 ∧ OwnE 3 enc3 28 w.heap.size w' v xs ∧ Below w.heap.size w w'

set_option maxRecDepth 20000 in
set_option maxHeartbeats 1600000 in
theorem drawBillLoads_any (A : Option Addr) (n c : Nat) (bs : List Int) (w : World) (h : SlE 1 encU w A n bs) (hb : Bytes bs) (hn : n ≤ 1048576) (hc : n ≤ c) :
    Calls Try.prog 24 #[.slice A n c] w (DrewB w) := by
  have H := Lib.hid h
  have HB := Lib.hid hb
  clear h hb
  go_enter Try.func24, Try.ntmps24
  go_wp2_with fail
  refine (l6Open_any A n c bs w H.out HB.out hn hc).mono ?_
  rintro e w1 ⟨rfl, hr, hb1, hs1⟩
  have HR := Lib.hid hr
  have HB1 := Lib.hid hb1
  clear hr hb1 H HB
  go_wp2_with fail
  refine (l93Bill_any w.heap.size 0 w1 HR.out (by omega)).mono ?_
  rintro e w2 ⟨k, v, xs, rfl, k0, k1, hl, hd⟩
  have D2 := Lib.hid hd
  clear hd HR
  go_wp2_with fail
  go_ret2
  exact ⟨k, v, xs, rfl, k0, k1, hl, D2.out.2.2.2.1.base_le (by omega), below_rd HB1.out D2.out.2.2.1⟩

set_option maxRecDepth 20000 in
set_option maxHeartbeats 1600000 in
theorem drawBillMoves_any (A : Option Addr) (n c : Nat) (bs : List Int) (w : World) (h : SlE 1 encU w A n bs) (hb : Bytes bs) (hn : n ≤ 1048576) (hc : n ≤ c) :
    Calls Try.prog 36 #[.slice A n c] w (DrewB w) := by
  have H := Lib.hid h
  have HB := Lib.hid hb
  clear h hb
  go_enter Try.func36, Try.ntmps36
  go_wp2_with fail
  refine (l6Open_any A n c bs w H.out HB.out hn hc).mono ?_
  rintro e w1 ⟨rfl, hr, hb1, hs1⟩
  have HR := Lib.hid hr
  have HB1 := Lib.hid hb1
  clear hr hb1 H HB
  go_wp2_with fail
  refine (l93Bill_any w.heap.size 0 w1 HR.out (by omega)).mono ?_
  rintro e w2 ⟨k, v, xs, rfl, k0, k1, hl, hd⟩
  have D2 := Lib.hid hd
  clear hd HR
  go_wp2_with fail
  go_ret2
  exact ⟨k, v, xs, rfl, k0, k1, hl, D2.out.2.2.2.1.base_le (by omega), below_rd HB1.out D2.out.2.2.1⟩

set_option maxRecDepth 20000 in
set_option maxHeartbeats 1600000 in
theorem drawBillOrder_any (A : Option Addr) (n c : Nat) (bs : List Int) (w : World) (h : SlE 1 encU w A n bs) (hb : Bytes bs) (hn : n ≤ 1048576) (hc : n ≤ c) :
    Calls Try.prog 54 #[.slice A n c] w (DrewB w) := by
  have H := Lib.hid h
  have HB := Lib.hid hb
  clear h hb
  go_enter Try.func54, Try.ntmps54
  go_wp2_with fail
  refine (l6Open_any A n c bs w H.out HB.out hn hc).mono ?_
  rintro e w1 ⟨rfl, hr, hb1, hs1⟩
  have HR := Lib.hid hr
  have HB1 := Lib.hid hb1
  clear hr hb1 H HB
  go_wp2_with fail
  refine (l93Bill_any w.heap.size 0 w1 HR.out (by omega)).mono ?_
  rintro e w2 ⟨k, v, xs, rfl, k0, k1, hl, hd⟩
  have D2 := Lib.hid hd
  clear hd HR
  go_wp2_with fail
  go_ret2
  exact ⟨k, v, xs, rfl, k0, k1, hl, D2.out.2.2.2.1.base_le (by omega), below_rd HB1.out D2.out.2.2.1⟩

set_option maxRecDepth 20000 in
set_option maxHeartbeats 1600000 in
theorem drawBillPound_any (A : Option Addr) (n c : Nat) (bs : List Int) (w : World) (h : SlE 1 encU w A n bs) (hb : Bytes bs) (hn : n ≤ 1048576) (hc : n ≤ c) :
    Calls Try.prog 20 #[.slice A n c] w (DrewB w) := by
  have H := Lib.hid h
  have HB := Lib.hid hb
  clear h hb
  go_enter Try.func20, Try.ntmps20
  go_wp2_with fail
  refine (l6Open_any A n c bs w H.out HB.out hn hc).mono ?_
  rintro e w1 ⟨rfl, hr, hb1, hs1⟩
  have HR := Lib.hid hr
  have HB1 := Lib.hid hb1
  clear hr hb1 H HB
  go_wp2_with fail
  refine (l93Bill_any w.heap.size 0 w1 HR.out (by omega)).mono ?_
  rintro e w2 ⟨k, v, xs, rfl, k0, k1, hl, hd⟩
  have D2 := Lib.hid hd
  clear hd HR
  go_wp2_with fail
  go_ret2
  exact ⟨k, v, xs, rfl, k0, k1, hl, D2.out.2.2.2.1.base_le (by omega), below_rd HB1.out D2.out.2.2.1⟩

set_option maxRecDepth 20000 in
set_option maxHeartbeats 1600000 in
theorem drawBillTurn_any (A : Option Addr) (n c : Nat) (bs : List Int) (w : World) (h : SlE 1 encU w A n bs) (hb : Bytes bs) (hn : n ≤ 1048576) (hc : n ≤ c) :
    Calls Try.prog 28 #[.slice A n c] w (DrewB w) := by
  have H := Lib.hid h
  have HB := Lib.hid hb
  clear h hb
  go_enter Try.func28, Try.ntmps28
  go_wp2_with fail
  refine (l6Open_any A n c bs w H.out HB.out hn hc).mono ?_
  rintro e w1 ⟨rfl, hr, hb1, hs1⟩
  have HR := Lib.hid hr
  have HB1 := Lib.hid hb1
  clear hr hb1 H HB
  go_wp2_with fail
  refine (l93Bill_any w.heap.size 0 w1 HR.out (by omega)).mono ?_
  rintro e w2 ⟨k, v, xs, rfl, k0, k1, hl, hd⟩
  have D2 := Lib.hid hd
  clear hd HR
  go_wp2_with fail
  go_ret2
  exact ⟨k, v, xs, rfl, k0, k1, hl, D2.out.2.2.2.1.base_le (by omega), below_rd HB1.out D2.out.2.2.1⟩
end Go.Proofs.Ytdfgogcefnamcaa
