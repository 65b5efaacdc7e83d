/- Contracts: the reader of codes: l6Open and pick. -/
import Derived.Test.YtgjllminidlolaaGreatDoorOwn
import Derived.StillTailTactics
import Derived.Deep.QuietTactic
import Derived.BigQuiet
set_option linter.unusedVariables false
namespace Go.Proofs.YtgjllminidlolaaGreatDoor
open Go.RowKit

def encU (x : Int) : List Value := [.int .u8 x]
def Bytes (bs : List Int) : Prop := ∀ v ∈ bs, 0 ≤ v ∧ v ≤ 255
/-- Block R is a reader of a code that has read at most m times. -/
def RdAt (w : World) (R m : Nat) : Prop :=
  ∃ (p : Nat) (A : Option Addr) (n c : Nat) (bs : List Int), p ≤ m ∧ R < w.heap.size ∧ w.cell? ⟨R, 0, none⟩ = some (.slice A n c) ∧ w.cell? ⟨R, 1, none⟩ = some (.int .i64 p) ∧ (∀ j, w.frozen? ⟨R, j, none⟩ = false) ∧
    SlE 1 encU w A n bs ∧ n ≤ 2000 ∧ Bytes bs ∧ (0 < n → ∀ b off, A = some ⟨b, off, none⟩ → b < R)
theorem RdAt.lt {w : World} {R m : Nat} (h : RdAt w R m) : R < w.heap.size := by
  obtain ⟨p, A, n, c, bs, h1, h2, _⟩ := h
  exact h2
theorem RdAt.mono {w : World} {R m m' : Nat} (h : RdAt w R m) (hm : m ≤ m') : RdAt w R m' := by
  obtain ⟨p, A, n, c, bs, h1, h2⟩ := h
  exact ⟨p, A, n, c, bs, Nat.le_trans h1 hm, h2⟩
/-- What grows beyond the reader leaves it. -/
theorem RdAt.grown {w w' : World} {R m : Nat} {row : Option Nat} (h : RdAt w R m) (hg : w.grownBy w' row) (hr : ∀ j, row = some j → R < j) : RdAt w' R m := by
  obtain ⟨p, A, n, c, bs, h1, h2, h3, h4, h5, h6, h7, h8, h9⟩ := h
  have hb : ∀ b, b < w.heap.size → b ≤ R → w'.heap[b]? = w.heap[b]? := fun b hlt hle => hg.block b hlt (fun e => by have := hr b e.symm; omega)
  have hc : ∀ j, w'.cell? ⟨R, j, none⟩ = w.cell? ⟨R, j, none⟩ := fun j => by unfold World.cell?; rw [hb R h2 (Nat.le_refl _)]
  have hf : ∀ j, w'.frozen? ⟨R, j, none⟩ = w.frozen? ⟨R, j, none⟩ := fun j => by unfold World.frozen?; rw [hb R h2 (Nat.le_refl _)]
  refine ⟨p, A, n, c, bs, h1, Nat.lt_of_lt_of_le h2 hg.size, (hc 0).trans h3, (hc 1).trans h4, fun j => (hf j).trans (h5 j), ⟨h6.1, fun hn => ?_⟩, h7, h8, h9⟩
  obtain ⟨b, off, hA, hlt, hcc⟩ := h6.2 hn
  refine ⟨b, off, hA, Nat.lt_of_lt_of_le hlt hg.size, fun j q hj i v hv => ?_⟩
  have hbr := h9 hn b off hA
  have := hcc j q hj i v hv
  unfold World.cell? at this ⊢
  rw [hb b hlt (Nat.le_of_lt hbr)]
  exact this
theorem RdAt.below {w w' : World} {R m B : Nat} (h : RdAt w R m) (hb : Below B w w') (hB : w.heap.size ≤ B) : RdAt w' R m :=
  h.grown (row := none) ⟨hb.os, hb.tape, hb.output, hb.size, fun j hj _ => hb.block j (by omega)⟩ (fun j hj => by cases hj)
theorem grown_below {w a b : World} {row : Option Nat} (h : w.grownBy a row) (hb : Below a.heap.size a b) : w.grownBy b row :=
  ⟨hb.os.trans h.os, hb.tape.trans h.tape, hb.output.trans h.output, Nat.le_trans h.size hb.size, fun j hj hr => (hb.block j (Nat.lt_of_lt_of_le hj h.size)).trans (h.block j hj hr)⟩
theorem grown_own {w a b : World} {row : Option Nat} {v : Value} (h : w.grownBy a row) (hg : a.grownBy b v.ownBlock) (ho : ∀ j, v.ownBlock = some j → w.heap.size ≤ j) : w.grownBy b row :=
  ⟨hg.os.trans h.os, hg.tape.trans h.tape, hg.output.trans h.output, Nat.le_trans h.size hg.size, fun j hj hr => (hg.block j (Nat.lt_of_lt_of_le hj h.size) (fun e => by have := ho j e.symm; omega)).trans (h.block j hj hr)⟩
theorem grown_drewN' {w w' : World} {row : Option Nat} (h : w.grownBy w' row) (n : Nat) : w.grownBy (w'.drewN n) row := ⟨h.os, h.tape, h.output, h.size, h.block⟩

/-- How a pick ends: a number from 0 to n - 1, or 0. -/
def Picked (w : World) (R m : Nat) (n : Int) (e : Ending) (w' : World) : Prop :=
  ∃ x : Int, e = .returned (.int .i64 x) ∧ 0 ≤ x ∧ (1 ≤ n → x < n) ∧ (n < 1 → x = 0) ∧ RdAt w' R (m + 1) ∧ w.grownBy w' (some R)

theorem xor_bd {x y : Int} (hx : 0 ≤ x) (hx' : x < 1099511627776) (hy : 0 ≤ y) (hy' : y < 1099511627776) : 0 ≤ bits .xor .i64 x y ∧ bits .xor .i64 x y < 1099511627776 := by
  obtain ⟨a, rfl⟩ : ∃ n : Nat, x = n := ⟨x.toNat, by omega⟩
  obtain ⟨b, rfl⟩ : ∃ n : Nat, y = n := ⟨y.toNat, by omega⟩
  have ha : a < 2 ^ 40 := by omega
  have hb : b < 2 ^ 40 := by omega
  have hxor := Nat.xor_lt_two_pow ha hb
  have e : bits .xor .i64 (a : Int) (b : Int) = IntKind.i64.wrap (((BitVec.ofInt 64 (a : Int)) ^^^ (BitVec.ofInt 64 (b : Int))).toNat : Int) := rfl
  rw [e]
  have e2 : ((BitVec.ofInt 64 (a : Int)) ^^^ (BitVec.ofInt 64 (b : Int))).toNat = a ^^^ b := by
    rw [BitVec.toNat_xor, BitVec.ofInt_natCast, BitVec.ofInt_natCast, BitVec.toNat_ofNat, BitVec.toNat_ofNat, Nat.mod_eq_of_lt (by omega), Nat.mod_eq_of_lt (by omega)]
  rw [e2, IntWalk.i64_in _ (by omega)]
  omega

/-- Behind a step of the reader. -/
theorem rd_step {w : World} {R m p : Nat} {A : Option Addr} {l c : Nat} {bs : List Int} (h1 : p ≤ m) (h2 : R < w.heap.size) (h3 : w.cell? ⟨R, 0, none⟩ = some (.slice A l c)) (h4 : w.cell? ⟨R, 1, none⟩ = some (.int .i64 p)) (h5 : ∀ j, w.frozen? ⟨R, j, none⟩ = false)
    (h6 : SlE 1 encU w A l bs) (h7 : l ≤ 2000) (h8 : Bytes bs) (h9 : 0 < l → ∀ b off, A = some ⟨b, off, none⟩ → b < R) :
    RdAt (w.setCell ⟨R, 1, none⟩ (.int .i64 ((p : Int) + 1))) R (m + 1) ∧ w.grownBy (w.setCell ⟨R, 1, none⟩ (.int .i64 ((p : Int) + 1))) (some R) ∧ SlE 1 encU (w.setCell ⟨R, 1, none⟩ (.int .i64 ((p : Int) + 1))) A l bs := by
  have hg : w.grownBy (w.setCell ⟨R, 1, none⟩ (.int .i64 ((p : Int) + 1))) (some R) := ⟨rfl, rfl, rfl, by simp, fun j hj hne => Below.heap_setCell w _ _ j (fun e => hne (by rw [e]))⟩
  have hs : SlE 1 encU (w.setCell ⟨R, 1, none⟩ (.int .i64 ((p : Int) + 1))) A l bs := ⟨h6.1, fun hn => by
    obtain ⟨b, off, hA, hlt, hcc⟩ := h6.2 hn
    have hbr := h9 hn b off hA
    refine ⟨b, off, hA, Nat.lt_of_lt_of_le hlt hg.size, fun j q hj i v hv => ?_⟩
    exact (World.cell?_setCell_other (w := w) (a := ⟨R, 1, none⟩) (b := ⟨b, off + (j * 1 + i), none⟩) (v := .int .i64 ((p : Int) + 1)) (by intro e; injection e with e1; omega)).trans (hcc j q hj i v hv)⟩
  refine ⟨⟨p + 1, A, l, c, bs, by omega, Nat.lt_of_lt_of_le h2 hg.size, ?_, ?_, fun j => ?_, hs, h7, h8, h9⟩, hg, hs⟩
  · exact (World.cell?_setCell_other (w := w) (a := ⟨R, 1, none⟩) (b := ⟨R, 0, none⟩) (v := .int .i64 ((p : Int) + 1)) (by intro e; injection e with e1 e2; omega)).trans h3
  · exact World.cell?_setCell_same (w := w) (a := ⟨R, 1, none⟩) (v := .int .i64 ((p : Int) + 1)) h4
  · rw [World.frozen?_setCell]; exact h5 j
theorem atU {w : World} {A : Option Addr} {n : Nat} {xs : List Int} (h : SlE 1 encU w A n xs) (hb : Bytes xs) {j : Nat} (hj : j < n) :
    ∃ b off x, A = some ⟨b, off, none⟩ ∧ w.cell? ⟨b, off + j, none⟩ = some (.int .u8 x) ∧ 0 ≤ x ∧ x ≤ 255 := by
  obtain ⟨b, off, x, hA, hlt, hx, hd, hc⟩ := h.at_ hj
  have := hb x (mem_at hx)
  exact ⟨b, off, x, hA, by have := hc 0 _ rfl; simpa using this, this.1, this.2⟩

set_option maxRecDepth 20000 in
set_option maxHeartbeats 3200000 in
theorem pick_any (R m : Nat) (n : Int) (w : World) (h : RdAt w R m) (hm : m ≤ 100000) (hn : n ≤ 100000) :
    Calls Tryz.prog 32 #[.pointer (some ⟨R, 0, none⟩), .int .i64 n] w (Picked w R m n) := by
  obtain ⟨p, A, l, c, bs, h1, h2, h3, h4, h5, h6, h7, h8, h9⟩ := h
  obtain ⟨hrd, hgr, hsl⟩ := rd_step h1 h2 h3 h4 h5 h6 h7 h8 h9
  have HRD := Lib.hid hrd
  have HGR := Lib.hid hgr
  have HSL := Lib.hid hsl
  have H8 := Lib.hid h8
  clear hrd hgr hsl h6 h8 h9
  by_cases hn1 : n < 1
  · go_enter Tryz.func32, Tryz.ntmps32
    go_wp2
    go_ret
    exact ⟨0, rfl, by omega, fun h => by omega, fun _ => rfl, HRD.out, HGR.out⟩
  by_cases hl0 : l = 0
  · subst hl0
    go_enter Tryz.func32, Tryz.ntmps32
    go_wp2
    go_ret
    exact ⟨0, rfl, by omega, fun h => by omega, fun h => rfl, HRD.out, HGR.out⟩
  have hl1 : 0 < l := by omega
  have hl2 : ((l : Int) == 0) = false := by simp; omega
  have hn2 : 1 ≤ n := by omega
  have x1 : IntKind.i64.wrap ((p : Int) + 1 - 1) = (p : Int) := by rw [IntWalk.i64_in _ (by omega)]; omega
  by_cases hpl : p < l
  · obtain ⟨b, off, x, rfl, hx, hx0, hx1⟩ := atU HSL.out H8.out hpl
    clear hn1 hl0
    go_enter Tryz.func32, Tryz.ntmps32
    go_wp2
    go_ret
    exact ⟨x % n, rfl, Int.emod_nonneg _ (by omega), fun _ => Int.emod_lt_of_pos _ (by omega), fun h => by omega, HRD.out, HGR.out⟩
  · have hpl' : (l : Int) ≤ (p : Int) := by omega
    obtain ⟨i1, hi1, e1⟩ : ∃ i1 : Nat, i1 < l ∧ (p : Int) % (l : Int) = i1 := ⟨p % l, Nat.mod_lt _ hl1, by rw [Int.natCast_emod]⟩
    obtain ⟨i2, hi2, e2⟩ : ∃ i2 : Nat, i2 < l ∧ ((p : Int) * 7 + 3) % (l : Int) = i2 := ⟨(p * 7 + 3) % l, Nat.mod_lt _ hl1, by rw [Int.natCast_emod]; congr 1⟩
    obtain ⟨b, off, v1, rfl, hv1, hv10, hv11⟩ := atU HSL.out H8.out hi1
    obtain ⟨b', off', v2, hA, hv2, hv20, hv21⟩ := atU HSL.out H8.out hi2
    injection hA with hA
    injection hA with ea eb
    subst ea eb
    have hq0 : 0 ≤ (p : Int) / (l : Int) := Int.ediv_nonneg (by omega) (by omega)
    have hq1 : (p : Int) / (l : Int) ≤ (p : Int) := Int.ediv_le_self _ (by omega)
    have hp0 : (0 : Int) ≤ (p : Int) := by omega
    have hpm : (p : Int) ≤ 100000 := by omega
    have a1 : IntKind.i64.wrap (v1 * 131) = v1 * 131 := IntWalk.i64_in _ (by omega)
    have a2 : IntKind.i64.wrap ((p : Int) * 7) = (p : Int) * 7 := IntWalk.i64_in _ (by omega)
    have a3 : IntKind.i64.wrap ((p : Int) * 7 + 3) = (p : Int) * 7 + 3 := IntWalk.i64_in _ (by omega)
    have a4 : IntKind.i64.wrap (v2 * 1117) = v2 * 1117 := IntWalk.i64_in _ (by omega)
    have a5 : IntKind.i64.wrap (v1 * 131 + v2 * 1117) = v1 * 131 + v2 * 1117 := IntWalk.i64_in _ (by omega)
    have a6 : IntKind.i64.wrap ((p : Int) * 29) = (p : Int) * 29 := IntWalk.i64_in _ (by omega)
    have a7 : IntKind.i64.wrap (v1 * 131 + v2 * 1117 + (p : Int) * 29) = v1 * 131 + v2 * 1117 + (p : Int) * 29 := IntWalk.i64_in _ (by omega)
    generalize hq : (p : Int) / (l : Int) = q at *
    have a8 : IntKind.i64.wrap (q * 53) = q * 53 := IntWalk.i64_in _ (by omega)
    have a9 : IntKind.i64.wrap (v1 * 131 + v2 * 1117 + (p : Int) * 29 + q * 53) = v1 * 131 + v2 * 1117 + (p : Int) * 29 + q * 53 := IntWalk.i64_in _ (by omega)
    have hT0 : 0 ≤ v1 * 131 + v2 * 1117 + (p : Int) * 29 + q * 53 := by omega
    have hT1 : v1 * 131 + v2 * 1117 + (p : Int) * 29 + q * 53 < 1099511627776 := by omega
    have i10 : (0 : Int) ≤ (i1 : Int) := by omega
    have i11 : (i1 : Int) < (l : Int) := by omega
    have i20 : (0 : Int) ≤ (i2 : Int) := by omega
    have i21 : (i2 : Int) < (l : Int) := by omega
    clear hn1 hl0
    go_enter Tryz.func32, Tryz.ntmps32
    go_wp2_with fail
    go_quiet (fail)
    have HRDq : Hid (RdAt ((w.setCell ⟨R, 1, none⟩ (.int .i64 ((p : Int) + 1))).drewN nq) R (m + 1)) := HRD.out
    have HGRq := Lib.hid (grown_drewN' HGR.out nq)
    clear a1 a2 a3 a4 a5 a6 a7 a8 a9 hv1 hv2 e1 e2 hq
    generalize v1 * 131 + v2 * 1117 + (p : Int) * 29 + q * 53 = T at *
    have hX := xor_bd hT0 hT1 (show 0 ≤ T / 64 by omega) (by omega)
    obtain ⟨hX0, hX1⟩ := hX
    go_wp2
    go_ret
    exact ⟨bits .xor .i64 T (T / 64) % n, rfl, Int.emod_nonneg _ (by omega), fun _ => Int.emod_lt_of_pos _ (by omega), fun h => by omega, HRDq.out, HGRq.out⟩

/-- How l6Open ends. -/
def Opened (w : World) (e : Ending) (w' : World) : Prop := e = .returned (.pointer (some ⟨w.heap.size, 0, none⟩)) ∧ RdAt w' w.heap.size 0 ∧ Below w.heap.size w w' ∧ w.heap.size < w'.heap.size
set_option maxRecDepth 20000 in
set_option maxHeartbeats 1600000 in
theorem l6Open_any (A : Option Addr) (n c : Nat) (bs : List Int) (w : World) (h : SlE 1 encU w A n bs) (hb : Bytes bs) (hn : n ≤ 1048576) (hc : n ≤ c) :
    Calls Tryz.prog 31 #[.slice A n c] w (Opened w) := by
  have key : ∀ (n' c' : Nat) (bs' : List Int), SlE 1 encU w A n' bs' → n' ≤ 2000 → Bytes bs' → RdAt (w.alloc (.cells #[.slice A n' c', .int .i64 0] 105)) w.heap.size 0 := fun n' c' bs' h' hn' hb' => by
    have hz := heap_alloc_new w (.cells #[.slice A n' c', .int .i64 0] 105)
    refine ⟨0, A, n', c', bs', Nat.le_refl _, by simp, cell_of_row _ _ 0 _ _ _ hz, cell_of_row _ _ 1 _ _ _ hz, fun j => frozen_of_row _ _ j _ _ hz, h'.alloc _, hn', hb', fun h0 b off hA => ?_⟩
    obtain ⟨b', off', hA', hlt, _⟩ := h'.2 h0
    rw [hA] at hA'
    injection hA' with hA'
    injection hA' with e1 e2
    omega
  have HK := Lib.hid key
  have H := Lib.hid h
  have HB := Lib.hid hb
  clear key h hb
  by_cases h2 : n ≤ 2000
  · have h2' : (n : Int) ≤ 2000 := by omega
    go_enter Tryz.func31, Tryz.ntmps31
    go_wp2
    go_ret
    exact ⟨rfl, HK.out n c bs H.out h2 HB.out, below_alloc (Below.refl _ _) _, by simp⟩
  · have h2' : (2000 : Int) < (n : Int) := by omega
    have h3' : (2000 : Int) ≤ (c : Int) := by omega
    have HT : Hid (SlE 1 encU w A 2000 (bs.take 2000)) := ⟨by rw [List.length_take, H.out.len]; omega, fun _ => by
      obtain ⟨b, off, hA, hlt, hc⟩ := H.out.2 (by omega)
      exact ⟨b, off, hA, hlt, fun i p hp => hc i p (by rw [List.getElem?_take] at hp; split at hp; exact hp; cases hp)⟩⟩
    have HBT : Hid (Bytes (bs.take 2000)) := fun v hv => HB.out v (List.mem_of_mem_take hv)
    go_enter Tryz.func31, Tryz.ntmps31
    go_wp2
    go_ret
    exact ⟨rfl, HK.out 2000 c _ HT.out (by omega) HBT.out, below_alloc (Below.refl _ _) _, by simp⟩
end Go.Proofs.YtgjllminidlolaaGreatDoor
