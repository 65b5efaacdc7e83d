/- Contracts: the draws of bookings. -/
import Derived.Test.YtkknfhabfmpogaaSDraw
import Derived.Test.YtkknfhabfmpogaaSWalkI
import Derived.OwnWalk
set_option linter.unusedVariables false
namespace Go.Proofs.Ytkknfhabfmpogaa
open Go.RowKit

theorem below_rd {w w1 w' : World} (hb : Below w.heap.size w w1) (hg : w1.grownBy w' (some w.heap.size)) : Below w.heap.size w w' :=
  hb.grown hg hb.size (fun j hj => by injection hj with hj; omega)
theorem DGB.mono {w W : World} {R m m' : Nat} {v : Value} {xs : List B3} (h : DGB w R m v xs W) (hm : m ≤ m') : DGB w R m' v xs W := ⟨h.1, h.2.1.mono hm, h.2.2⟩
/-- A number of legs and bookings have been drawn. -/
def DrewK (w : World) (e : Ending) (w' : World) : Prop :=
  ∃ n v xs, e = .returned (.tuple #[.int .i64 n, v]) ∧ 0 ≤ n ∧ n ≤ 8 ∧ xs.length ≤ 12 ∧ OwnE 3 encB 28 w.heap.size w' v xs ∧ Below w.heap.size w w'
set_option maxRecDepth 20000 in
set_option maxHeartbeats 1600000 in
theorem drawSeatingMake_any (A : Option Addr) (n c : Nat) (bs : List Int) (w : World) (h : SlE 1 encU w A n bs) (hb : Bytes bs) (hn : n ≤ 1048576) (hc : n ≤ c) :
    Calls Try.prog 26 #[.slice A n c] w (DrewK w) := by
  have H := Lib.hid h
  have HB := Lib.hid hb
  clear h hb
  go_enter Try.func26, Try.ntmps26
  go_wp2_with fail
  refine (l6Open_any A n c bs w H.out HB.out hn hc).mono ?_
  rintro e w1 ⟨rfl, hr, hb1, hs1⟩
  have HR := Lib.hid hr
  have HB1 := Lib.hid hb1
  clear hr hb1 H HB
  go_wp2_with fail
  refine (l92Bookings_any w.heap.size 0 w1 HR.out (by omega)).mono ?_
  rintro e w2 ⟨k, v, xs, rfl, k0, k1, hl, hd⟩
  have D2 := Lib.hid hd
  clear hd HR
  go_wp2_with fail
  go_ret2
  exact ⟨k, v, xs, rfl, by omega, by omega, hl, D2.out.2.2.2.base_le (by omega), below_rd HB1.out D2.out.2.2.1⟩
def len_of : Value → Nat
  | .slice _ n _ => n
  | _ => 0
set_option maxRecDepth 20000 in
set_option maxHeartbeats 3200000 in
theorem drawBookingsValid_any (A : Option Addr) (n c : Nat) (bs : List Int) (w : World) (h : SlE 1 encU w A n bs) (hb : Bytes bs) (hn : n ≤ 1048576) (hc : n ≤ c) :
    Calls Try.prog 9 #[.slice A n c] w (DrewK w) := by
  have H := Lib.hid h
  have HB := Lib.hid hb
  clear h hb
  go_enter Try.func9, Try.ntmps9
  go_wp2_with fail
  refine (l6Open_any A n c bs w H.out HB.out hn hc).mono ?_
  rintro e w1 ⟨rfl, hr, hb1, hs1⟩
  have HR := Lib.hid hr
  have HB1 := Lib.hid hb1
  clear hr hb1 H HB
  go_wp2_with fail
  refine (l92Bookings_any w.heap.size 0 w1 HR.out (by omega)).mono ?_
  rintro e w2 ⟨k, v, xs, rfl, k0, k1, hl, hd⟩
  have D2 := Lib.hid hd
  clear hd HR
  go_wp2_with fail
  refine (pick_any w.heap.size 40 12 w2 (by simpa using D2.out.2.1) (by omega) (by omega)).mono ?_
  rintro e w3 ⟨x, rfl, b0, b1, -, hr, hg⟩
  have b1 := b1 (by omega)
  have D3 := Lib.hid (D2.out.pick hr hg)
  clear hr hg D2
  by_cases e0 : x = 0
  · have hR3 := Nat.lt_of_lt_of_le hs1 D3.out.size
    go_wp2_with fail
    refine (pick_any w.heap.size 41 3 _ (D3.out.alloc _).2.1 (by omega) (by omega)).mono ?_
    rintro e w4 ⟨y, rfl, c0, c1, -, hr, hg⟩
    have c1 := c1 (by omega)
    obtain ⟨y, rfl⟩ : ∃ i : Nat, y = i := ⟨y.toNat, by omega⟩
    obtain ⟨z, hz, hzm⟩ := lit_at [0, 8, 1] _ rfl (by simp) hg hR3 (x := y) (by simp; omega)
    have D4 := Lib.hid ((D3.out.alloc _).pick hr hg)
    have HZ := Lib.hid hzm
    clear hr hg D3 hzm
    go_wp2_with fail
    go_ret2
    exact ⟨z, v, xs, rfl, by have := HZ.out; simp at this; omega, by have := HZ.out; simp at this; omega, hl, D4.out.2.2.2.base_le (by omega), below_rd HB1.out D4.out.2.2.1⟩
  by_cases e1 : x = 1
  · have D3' := Lib.hid (D3.out.mono (show 40 + 1 ≤ 100 + xs.length by omega))
    clear D3
    go_wp2_with fail
    go_loopw [6] (fun s wr => ∃ xs : List B3, xs.length ≤ 12 ∧ DGB w1 w.heap.size (100 + xs.length) s xs wr) (fun s _ => 7 - len_of s)
    case atStart => exact ⟨xs, hl, D3'.out⟩
    case round =>
      obtain ⟨xs, hl, hd⟩ := hrel
      have HD := Lib.hid hd
      clear hd D3'
      obtain ⟨A2, c2, rfl, -, hlc⟩ := HD.out.2.2.2.slc encB_len rfl
      generalize hlen : xs.length = len at *
      have HL := Lib.hid hlen
      clear hlen
      by_cases h7 : len < 7
      · have h7' : (len : Int) < 7 := by omega
        go_wp2_with fail
        refine (pick_any w.heap.size (100 + len) 4 wr HD.out.2.1 (by omega) (by omega)).mono ?_
        rintro e w4 ⟨y, rfl, c0, c1, -, hr, hg⟩
        have D4 := Lib.hid (HD.out.pick hr hg)
        obtain ⟨zb, hzb⟩ : ∃ zb : Bool, zb = decide (0 < y) := ⟨_, rfl⟩
        have HZB := Lib.hid hzb.symm
        have hsz := D4.out.size
        clear hr hg HD c1 hzb
        go_wp2_with (at_builtin; rw [HZB.out]; refine wpList_push 3 24 28 encB encB_len encB_one (by omega) ⟨0, 1, zb⟩ _ _ rfl rfl _ _ _ rfl Try.underlying23 info_conB rfl w1.heap.size _ xs rfl rfl (by simp) D4.out.2.2.2 (by rw [HL.out]; omega) (by rw [HL.out]; unfold maxLen; omega) hsz ?_; intro v' w' hown' hg'; have D5 := Lib.hid (D4.out.to hg' hown'); clear hown' hg')
        obtain ⟨A3, c3, rfl, -, -⟩ := D5.out.2.2.2.slc encB_len (n := len + 1) (by simp [HL.out])
        go_roundw
        case rel => exact ⟨xs ++ [⟨0, 1, zb⟩], by simp; rw [HL.out]; omega, by have := D5.out; simp only [List.length_append, List.length_cons, List.length_nil, HL.out]; exact this⟩
        case measure => simp [len_of]; omega
      · go_wp2_with fail
        go_ret2
        exact ⟨k, _, xs, rfl, by omega, by omega, by rw [HL.out]; exact hl, HD.out.2.2.2.base_le (by omega), below_rd HB1.out HD.out.2.2.1⟩
  go_wp2_with fail
  go_ret2
  exact ⟨k, v, xs, rfl, by omega, by omega, hl, D3.out.2.2.2.base_le (by omega), below_rd HB1.out D3.out.2.2.1⟩
end Go.Proofs.Ytkknfhabfmpogaa
