/- Contracts: the draws of bookings. -/
import Derived.Test.YtgjllminidlolaaGreatDoorSDraw
import Derived.Test.YtgjllminidlolaaGreatDoorSWalkI
import Derived.OwnWalk
set_option linter.unusedVariables false
namespace Go.Proofs.YtgjllminidlolaaGreatDoor
open Go.RowKit

theorem below_rd {w w1 w' : World} (hb : Below w.heap.size w w1) (hg : w1.grownBy w' (some w.heap.size)) : Below w.heap.size w w' :=
  hb.grown hg hb.size (fun j hj => by injection hj with hj; omega)
theorem DGB.mono {w W : World} {R m m' : Nat} {v : Value} {xs : List B3} (h : DGB w R m v xs W) (hm : m ≤ m') : DGB w R m' v xs W := ⟨h.1, h.2.1.mono hm, h.2.2⟩
/-- A number of legs and bookings have been drawn. -/
def DrewK (w : World) (e : Ending) (w' : World) : Prop :=
  ∃ n v xs, e = .returned (.tuple #[.int .i64 n, v]) ∧ 0 ≤ n ∧ n ≤ 8 ∧ xs.length ≤ 12 ∧ OwnE 3 encB 34 w.heap.size w' v xs ∧ Below w.heap.size w w'
set_option maxRecDepth 20000 in
set_option maxHeartbeats 1600000 in
theorem drawSeatingMake_any (A : Option Addr) (n c : Nat) (bs : List Int) (w : World) (h : SlE 1 encU w A n bs) (hb : Bytes bs) (hn : n ≤ 1048576) (hc : n ≤ c) :
    Calls Tryz.prog 15 #[.slice A n c] w (DrewK w) := by
  have H := Lib.hid h
  have HB := Lib.hid hb
  clear h hb
  go_enter Tryz.func15, Tryz.ntmps15
  go_wp2_with fail
  refine (l6Open_any A n c bs w H.out HB.out hn hc).mono ?_
  rintro e w1 ⟨rfl, hr, hb1, hs1⟩
  have HR := Lib.hid hr
  have HB1 := Lib.hid hb1
  clear hr hb1 H HB
  go_wp2_with fail
  refine (l92Bookings_any w.heap.size 0 w1 HR.out (by omega)).mono ?_
  rintro e w2 ⟨k, v, xs, rfl, k0, k1, hl, hd⟩
  have D2 := Lib.hid hd
  clear hd HR
  go_wp2_with fail
  go_ret2
  exact ⟨k, v, xs, rfl, by omega, by omega, hl, D2.out.2.2.2.base_le (by omega), below_rd HB1.out D2.out.2.2.1⟩
def len_of : Value → Nat
  | .slice _ n _ => n
  | _ => 0
end Go.Proofs.YtgjllminidlolaaGreatDoor
