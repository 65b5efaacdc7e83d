/- Contracts: the draws of bookings with an index, and of a seating. -/
import Derived.Test.YtkknfhabfmpogaaSDrawA
import Derived.RegionTactic
set_option linter.unusedVariables false
namespace Go.Proofs.Ytkknfhabfmpogaa
open Go.RowKit

/-- How l92At ends: a number from -1 to n. -/
def AtEnd (w : World) (R m n : Nat) (e : Ending) (w' : World) : Prop :=
  ∃ x : Int, e = .returned (.int .i64 x) ∧ -1 ≤ x ∧ x ≤ n ∧ RdAt w' R (m + 2) ∧ w.grownBy w' (some R)
set_option maxRecDepth 20000 in
set_option maxHeartbeats 1600000 in
theorem l92At_any (R m n : Nat) (w : World) (h : RdAt w R m) (hm : m ≤ 50000) (hn : n ≤ 12) :
    Calls Try.prog 52 #[.pointer (some ⟨R, 0, none⟩), .int .i64 n] w (AtEnd w R m n) := by
  have hR := h.lt
  have H := Lib.hid h
  have HRA := Lib.hid (fun (W : World) (m' : Nat) (o : Obj) (hr : RdAt W R m') => hr.below (below_alloc (Below.refl _ W) o) (Nat.le_refl _))
  clear h
  by_cases h0 : n = 0
  · subst h0
    go_enter Try.func52, Try.ntmps52
    go_wp2_with fail
    refine (pick_any R m 2 _ (HRA.out w m _ H.out) (by omega) (by omega)).mono ?_
    rintro e w2 ⟨x, rfl, a0, a1, -, hr, hg⟩
    have a1 := a1 (by omega)
    obtain ⟨x, rfl⟩ : ∃ i : Nat, x = i := ⟨x.toNat, by omega⟩
    obtain ⟨z, hz, hzm⟩ := lit_at [-1, 0] _ rfl (by simp) hg hR (x := x) (by simp; omega)
    have HR2 := Lib.hid hr
    have HG2 := Lib.hid (grown_trans (grown_alloc (World.grownBy.refl w (some R)) _) hg)
    have HZ := Lib.hid hzm
    clear hr hg hzm
    go_wp2_with fail
    go_ret
    exact ⟨z, rfl, by have := HZ.out; simp at this; omega, by have := HZ.out; simp at this; omega, HR2.out.mono (by omega), HG2.out⟩
  have d0 : ((n : Int) == 0) = false := by simp; omega
  have hn1 : 1 ≤ (n : Int) := by omega
  go_enter Try.func52, Try.ntmps52
  go_wp2_with fail
  refine (pick_any R m 20 _ H.out (by omega) (by omega)).mono ?_
  rintro e w2 ⟨x, rfl, a0, a1, -, hr, hg⟩
  have hsz := hg.size
  have HR2 := Lib.hid hr
  have HG2 := Lib.hid hg
  clear hr hg a1
  by_cases e0 : x = 0
  · go_wp2_with fail
    refine (pick_any R (m + 1) 2 _ (HRA.out w2 _ _ HR2.out) (by omega) (by omega)).mono ?_
    rintro e w3 ⟨y, rfl, c0, c1, -, hr, hg⟩
    have c1 := c1 (by omega)
    obtain ⟨y, rfl⟩ : ∃ i : Nat, y = i := ⟨y.toNat, by omega⟩
    obtain ⟨z, hz, hzm⟩ := lit_at [-1, (n : Int)] _ rfl (by simp) hg (by omega) (x := y) (by simp; omega)
    have HR3 := Lib.hid hr
    have HG3 := Lib.hid (grown_trans (grown_alloc HG2.out _) hg)
    have HZ := Lib.hid hzm
    clear hr hg hzm
    go_wp2_with fail
    go_ret
    exact ⟨z, rfl, by have := HZ.out; simp at this; omega, by have := HZ.out; simp at this; omega, HR3.out.mono (by omega), HG3.out⟩
  · go_wp2_with fail
    refine (pick_any R (m + 1) n _ HR2.out (by omega) (by omega)).mono ?_
    rintro e w3 ⟨y, rfl, c0, c1, -, hr, hg⟩
    have c1 := c1 (by omega)
    have HR3 := Lib.hid hr
    have HG3 := Lib.hid (grown_trans HG2.out hg)
    clear hr hg
    go_wp2_with fail
    go_ret
    exact ⟨y, rfl, by omega, by omega, HR3.out, HG3.out⟩

/-- A number of legs, bookings and an index have been drawn. -/
def DrewKI (w : World) (e : Ending) (w' : World) : Prop :=
  ∃ n v xs k, e = .returned (.tuple #[.int .i64 n, v, .int .i64 k]) ∧ 0 ≤ n ∧ n ≤ 8 ∧ xs.length ≤ 12 ∧ -1 ≤ k ∧ k ≤ xs.length ∧ OwnE 3 encB 28 w.heap.size w' v xs ∧ Below w.heap.size w w'
set_option maxRecDepth 20000 in
set_option maxHeartbeats 1600000 in
theorem drawSeatsCancel_any (A : Option Addr) (n c : Nat) (bs : List Int) (w : World) (h : SlE 1 encU w A n bs) (hb : Bytes bs) (hn : n ≤ 1048576) (hc : n ≤ c) :
    Calls Try.prog 29 #[.slice A n c] w (DrewKI w) := by
  have H := Lib.hid h
  have HB := Lib.hid hb
  clear h hb
  go_enter Try.func29, Try.ntmps29
  go_wp2_with fail
  refine (l6Open_any A n c bs w H.out HB.out hn hc).mono ?_
  rintro e w1 ⟨rfl, hr, hb1, hs1⟩
  have HR := Lib.hid hr
  have HB1 := Lib.hid hb1
  clear hr hb1 H HB
  go_wp2_with fail
  refine (l92Bookings_any w.heap.size 0 w1 HR.out (by omega)).mono ?_
  rintro e w2 ⟨k, v, xs, rfl, k0, k1, hl, hd⟩
  have D2 := Lib.hid hd
  obtain ⟨A2, c2, rfl, -, hlc⟩ := hd.2.2.2.slc encB_len rfl
  generalize hlen : xs.length = len at *
  have HL := Lib.hid hlen
  clear hd HR hlen
  go_wp2_with fail
  refine (l92At_any w.heap.size 40 len w2 (by simpa using D2.out.2.1) (by omega) (by omega)).mono ?_
  rintro e w3 ⟨x, rfl, a0, a1, hr, hg⟩
  have D3 := Lib.hid (D2.out.pick hr hg)
  clear hr hg D2
  go_wp2_with fail
  go_ret3
  exact ⟨k, _, xs, x, rfl, by omega, by omega, by rw [HL.out]; exact hl, a0, by rw [HL.out]; exact a1, D3.out.2.2.2.base_le (by omega), below_rd HB1.out D3.out.2.2.1⟩
end Go.Proofs.Ytkknfhabfmpogaa
