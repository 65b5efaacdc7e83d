/- Contracts: l92At, l92Stretch and the draws of a way-bill and more. -/
import Derived.Test.YtdfgogcefnamcaaDrawC
set_option linter.unusedVariables false
namespace Go.Proofs.Ytdfgogcefnamcaa
open Go.RowKit

theorem grown_refl (w : World) (row : Option Nat) : w.grownBy w row := ⟨rfl, rfl, rfl, Nat.le_refl _, fun _ _ _ => rfl⟩
/-- How a draw of one number ends. -/
def DrawnI (w : World) (R m : Nat) (a b : Int) (e : Ending) (w' : World) : Prop :=
  ∃ x : Int, e = .returned (.int .i64 x) ∧ a ≤ x ∧ x ≤ b ∧ RdAt w' R m ∧ w.grownBy w' (some R)
/-- How a draw of a way ends. -/
def DrawnW (w : World) (R m : Nat) (e : Ending) (w' : World) : Prop :=
  ∃ x y : Int, e = .returned (.tuple #[.int .i64 x, .int .i64 y]) ∧ -2000 ≤ x ∧ x ≤ 2000 ∧ -2000 ≤ y ∧ y ≤ 2000 ∧ RdAt w' R m ∧ w.grownBy w' (some R)
theorem rd_alloc {w : World} {R m : Nat} (h : RdAt w R m) (o : Obj) : RdAt (w.alloc o) R m := h.below (below_alloc (Below.refl _ w) o) (Nat.le_refl _)
theorem grown_ofalloc {w W : World} {row : Option Nat} {o : Obj} (h : (w.alloc o).grownBy W row) : w.grownBy W row := grown_trans (grown_alloc (grown_refl w row) o) h

theorem lit_is {w w' : World} {R ty : Nat} (xs : List Int) (cs : Array Value) (hcs : cs.toList = xs.flatMap encI) (hm : xs.length ≤ 8) (hg : (w.alloc (.cells cs ty)).grownBy w' (some R)) (hR : R < w.heap.size) {x : Nat} {z : Int} (hx : xs[x]? = some z) :
    w'.cell? ⟨w.heap.size, x, none⟩ = some (.int .i64 z) := by
  have h1 := own_new (enc := encI) (k := 1) w ty w.heap.size (Nat.le_refl _) encI_len xs cs hcs (by unfold maxLen; omega) rfl
  have h2 := OwnE.apart h1 hg (.inr fun e => by injection e with e; have e : w.heap.size = R := e; omega)
  exact OwnE.cell1 h2 hx

set_option maxRecDepth 20000 in
set_option maxHeartbeats 1600000 in
theorem l92At_any (R m n : Nat) (w : World) (h : RdAt w R m) (hm : m ≤ 50000) (hn : n ≤ 1000) :
    Calls Try.prog 74 #[.pointer (some ⟨R, 0, none⟩), .int .i64 n] w (DrawnI w R (m + 3) (-1) n) := by
  have H := Lib.hid h
  have hR := h.lt
  clear h
  have fin : ∀ (W : World) (k : Nat) (a : Int), k ≤ 2 → RdAt W R (m + k) → w.grownBy W (some R) → (Calls Try.prog 64 #[.pointer (some ⟨R, 0, none⟩), .int .i64 2] (W.alloc (.cells #[.int .i64 (-1), .int .i64 n] 3))) (fun e w' => ∃ (x : Nat) (z : Int), e = .returned (.int .i64 x) ∧ x < 2 ∧ -1 ≤ z ∧ z ≤ n ∧ w'.cell? ⟨W.heap.size, x, none⟩ = some (.int .i64 z) ∧ RdAt w' R (m + 3) ∧ w.grownBy w' (some R)) := fun W k a hk hr hg => by
    refine (pick_any R (m + k) 2 _ (rd_alloc hr _) (by omega) (by omega)).mono ?_
    rintro e w' ⟨x, rfl, a0, a1, -, hr', hg'⟩
    have a1 := a1 (by omega)
    obtain ⟨x, rfl⟩ : ∃ i : Nat, x = i := ⟨x.toNat, by omega⟩
    obtain ⟨z, hz, hzm⟩ := lit_at [-1, (n : Int)] _ rfl (by simp) hg' (Nat.lt_of_lt_of_le hR hg.size) (x := x) (by simp; omega)
    simp at hzm
    exact ⟨x, z, rfl, by omega, by omega, by omega, hz, hr'.mono (by omega), grown_trans hg (grown_ofalloc hg')⟩
  have FIN := Lib.hid fin
  clear fin
  by_cases hn0 : n = 0
  · have hn1 : ((n : Int) == 0) = true := by simp [hn0]
    clear hn0
    go_enter Try.func74, Try.ntmps74
    go_wp2_with fail
    refine (FIN.out w 0 0 (by omega) H.out (grown_refl _ _)).mono ?_
    rintro e w' ⟨x, z, rfl, a0, z0, z1, hz, hr, hg⟩
    have HR := Lib.hid hr
    have HG := Lib.hid hg
    clear hr hg H
    go_wp2_with fail
    go_ret
    exact ⟨z, rfl, z0, z1, HR.out, HG.out⟩
  · have hn1 : ((n : Int) == 0) = false := by simp; omega
    go_enter Try.func74, Try.ntmps74
    go_wp2_with fail
    refine (pick_any R m 20 w H.out (by omega) (by omega)).mono ?_
    rintro e w1 ⟨x1, rfl, a0, a1, -, hr, hg⟩
    have HR := Lib.hid hr
    have HG := Lib.hid hg
    clear hr hg H
    by_cases h0 : x1 = 0
    · go_wp2_with fail
      refine (FIN.out w1 1 0 (by omega) HR.out HG.out).mono ?_
      rintro e w' ⟨x, z, rfl, b0, z0, z1, hz, hr, hg⟩
      have HR' := Lib.hid hr
      have HG' := Lib.hid hg
      clear hr hg HR HG
      go_wp2_with fail
      go_ret
      exact ⟨z, rfl, z0, z1, HR'.out, HG'.out⟩
    · have h1 : (x1 == 0) = false := by simp; omega
      go_wp2_with fail
      refine (pick_any R (m + 1) n w1 HR.out (by omega) (by omega)).mono ?_
      rintro e w2 ⟨x2, rfl, b0, b1, -, hr, hg⟩
      have HR' := Lib.hid (hr.mono (m' := m + 3) (by omega))
      have HG' := Lib.hid (grown_trans HG.out hg)
      clear hr hg HR HG
      go_wp2_with fail
      go_ret
      exact ⟨x2, rfl, by omega, by omega, HR'.out, HG'.out⟩

def BoxAt (w : World) (G : Nat) (p : T3) : Prop := OwnE 3 enc3 28 G w (.slice (some ⟨G, 0, none⟩) 1 1) [p]
theorem boxAt_new (w : World) (x y z : Int) : BoxAt (w.alloc (.cells #[.int .i64 x, .int .i64 y, .int .i64 z] 28)) w.heap.size ⟨x, y, z⟩ :=
  own_new (enc := enc3) (k := 3) w 28 w.heap.size (Nat.le_refl _) enc3_len [⟨x, y, z⟩] _ rfl (by simp [maxLen]) rfl
theorem BoxAt.lt {w : World} {G : Nat} {p : T3} (h : BoxAt w G p) : G < w.heap.size := (OwnE.lt h G rfl).2
theorem BoxAt.cells {w : World} {G : Nat} {x y z : Int} (h : BoxAt w G ⟨x, y, z⟩) : w.cell? ⟨G, 0, none⟩ = some (.int .i64 x) ∧ w.cell? ⟨G, 1, none⟩ = some (.int .i64 y) ∧ w.cell? ⟨G, 2, none⟩ = some (.int .i64 z) := by
  obtain ⟨a, b, c⟩ := OwnE.cell3 h (j := 0) (x := x) (y := y) (z := z) rfl
  exact ⟨by simpa using a, by simpa using b, by simpa using c⟩
theorem BoxAt.below {w w' : World} {G B : Nat} {p : T3} (h : BoxAt w G p) (hb : Below B w w') (hB : w.heap.size ≤ B) : BoxAt w' G p := OwnE.below h hb hB
theorem BoxAt.apart {w w' : World} {G : Nat} {p : T3} {row : Option Nat} (h : BoxAt w G p) (hg : w.grownBy w' row) (hne : row ≠ some G) : BoxAt w' G p := OwnE.apart h hg (.inr fun e => hne e.symm)

theorem box_below (w : World) (o : Obj) (W : World) (hW : Below (w.heap.size + 1) (w.alloc o) W) : Below w.heap.size w W := (below_alloc (Below.refl w.heap.size w) o).trans (hW.mono (by omega))
theorem results_tmp4 {fn : Func} {t u v x : Tmp} (h : fn.results = #[.tmp t, .tmp u, .tmp v, .tmp x]) (tmps : Array Value) (P : Program) (w : World) :
    (results fn tmps).run P w = .ok (.tuple #[tmps.getD t undef, tmps.getD u undef, tmps.getD v undef, tmps.getD x undef]) w := by
  simp [results, h]
/-- How a draw of two stops ends. -/
def DrawnS (w : World) (R m : Nat) (n : Int) (e : Ending) (w' : World) : Prop :=
  ∃ x y : Int, e = .returned (.tuple #[.int .i64 x, .int .i64 y]) ∧ 0 ≤ x ∧ x < n ∧ 0 ≤ y ∧ y ≤ n + 1 ∧ RdAt w' R m ∧ w.grownBy w' (some R)
set_option maxRecDepth 20000 in
set_option maxHeartbeats 3200000 in
theorem l92Stretch_any (R m : Nat) (n : Int) (w : World) (h : RdAt w R m) (hm : m ≤ 50000) (hn : 1 ≤ n ∧ n ≤ 1000) :
    Calls Try.prog 70 #[.pointer (some ⟨R, 0, none⟩), .int .i64 n] w (DrawnS w R (m + 3) n) := by
  obtain ⟨n0, n1⟩ := hn
  have H := Lib.hid h
  clear h
  go_enter Try.func70, Try.ntmps70
  go_wp2_with fail
  refine (pick_any R m n w H.out (by omega) (by omega)).mono ?_
  rintro e w1 ⟨f, rfl, a0, a1, -, hr, hg⟩
  have a1 := a1 (by omega)
  have HR := Lib.hid hr
  have HG := Lib.hid hg
  clear hr hg H
  go_wp2_with fail
  refine (pick_any R (m + 1) 20 w1 HR.out (by omega) (by omega)).mono ?_
  rintro e w2 ⟨q, rfl, b0, b1, -, hr, hg⟩
  have HR2 := Lib.hid hr
  have HG2 := Lib.hid (grown_trans HG.out hg)
  clear hr hg HR HG b1
  by_cases e0 : q = 0
  · go_wp2_with fail
    go_ret2
    exact ⟨f, f, rfl, a0, a1, a0, by omega, HR2.out.mono (by omega), HG2.out⟩
  · by_cases e1 : q = 1
    · go_wp2_with fail
      go_ret2
      exact ⟨f, n + 1, rfl, a0, a1, by omega, by omega, HR2.out.mono (by omega), HG2.out⟩
    · have f0 : (q == 0) = false := by simp; omega
      have f1 : (q == 1) = false := by simp; omega
      go_wp2_with fail
      refine (pick_any R (m + 1 + 1) (n - f) w2 HR2.out (by omega) (by omega)).mono ?_
      rintro e w3 ⟨d, rfl, c0, c1, -, hr, hg⟩
      have c1 := c1 (by omega)
      have HR3 := Lib.hid hr
      have HG3 := Lib.hid (grown_trans HG2.out hg)
      clear hr hg HR2 HG2
      go_wp2_with fail
      go_ret2
      exact ⟨f, f + 1 + d, rfl, a0, a1, by omega, by omega, HR3.out.mono (by omega), HG3.out⟩

/-- A way-bill and a number have been drawn. -/
def DrewBI (a b : Int) (w : World) (e : Ending) (w' : World) : Prop :=
  ∃ n v xs k, e = .returned (.tuple #[.int .i64 n, v, .int .i64 k]) ∧ 1 ≤ n ∧ n ≤ 6 ∧ xs.length ≤ 8 ∧ a ≤ k ∧ k ≤ b ∧ OwnE 3 enc3 28 w.heap.size w' v xs ∧ Below w.heap.size w w'
/-- A way-bill and two stops have been drawn. -/
def DrewBR (w : World) (e : Ending) (w' : World) : Prop :=
  ∃ n v xs f t, e = .returned (.tuple #[.int .i64 n, v, .int .i64 f, .int .i64 t]) ∧ 1 ≤ n ∧ n ≤ 6 ∧ xs.length ≤ 8 ∧ (0 ≤ f ∧ f ≤ 10) ∧ (0 ≤ t ∧ t ≤ 10) ∧ OwnE 3 enc3 28 w.heap.size w' v xs ∧ Below w.heap.size w w'
/-- A way-bill and a parcel have been drawn. -/
def DrewBA (w : World) (e : Ending) (w' : World) : Prop :=
  ∃ n v xs x y z, e = .returned (.tuple #[.int .i64 n, v, .agg #[.int .i64 x, .int .i64 y, .int .i64 z]]) ∧ 1 ≤ n ∧ n ≤ 6 ∧ xs.length ≤ 8 ∧ (0 ≤ x ∧ x ≤ 10) ∧ (0 ≤ y ∧ y ≤ 10) ∧ (1 ≤ z ∧ z ≤ 99) ∧ OwnE 3 enc3 28 w.heap.size w' v xs ∧ Below w.heap.size w w'

set_option maxRecDepth 20000 in
set_option maxHeartbeats 3200000 in
theorem drawBillStack_any (A : Option Addr) (n c : Nat) (bs : List Int) (w : World) (h : SlE 1 encU w A n bs) (hb : Bytes bs) (hn : n ≤ 1048576) (hc : n ≤ c) :
    Calls Try.prog 39 #[.slice A n c] w (DrewBI (-9) 6 w) := by
  have H := Lib.hid h
  have HB := Lib.hid hb
  clear h hb
  go_enter Try.func39, Try.ntmps39
  go_wp2_with fail
  refine (l6Open_any A n c bs w H.out HB.out hn hc).mono ?_
  rintro e w1 ⟨rfl, hr, hb1, hs1⟩
  have HR := Lib.hid hr
  have HB1 := Lib.hid hb1
  clear hr hb1 H HB
  go_wp2_with fail
  refine (l93Bill_any w.heap.size 0 w1 HR.out (by omega)).mono ?_
  rintro e w2 ⟨N, v, xs, rfl, k0, k1, hl, hd⟩
  have D2 := Lib.hid hd
  clear hd HR
  go_wp2_with fail
  refine (pick_any w.heap.size (0 + 40) (N + 1) w2 D2.out.2.1 (by omega) (by omega)).mono ?_
  rintro e w3 ⟨p, rfl, p0, p1, -, hr, hg⟩
  have p1 := p1 (by omega)
  have D3 := Lib.hid (D2.out.pick hr hg)
  clear hr hg D2
  go_wp2_with fail
  refine (pick_any w.heap.size (0 + 40 + 1) 20 w3 D3.out.2.1 (by omega) (by omega)).mono ?_
  rintro e w4 ⟨q, rfl, q0, q1, -, hr, hg⟩
  have q1 := q1 (by omega)
  have D4 := Lib.hid (D3.out.pick hr hg)
  clear hr hg D3
  go_wp2_with fail
  go_ret3
  exact ⟨N, v, xs, p - q / 19 * 9, rfl, k0, k1, hl, by omega, by omega, D4.out.2.2.2.1.base_le (by omega), below_rd HB1.out D4.out.2.2.1⟩

set_option maxRecDepth 20000 in
set_option maxHeartbeats 3200000 in
theorem drawBillDrop_any (A : Option Addr) (n c : Nat) (bs : List Int) (w : World) (h : SlE 1 encU w A n bs) (hb : Bytes bs) (hn : n ≤ 1048576) (hc : n ≤ c) :
    Calls Try.prog 46 #[.slice A n c] w (DrewBI (-1) 8 w) := by
  have H := Lib.hid h
  have HB := Lib.hid hb
  clear h hb
  go_enter Try.func46, Try.ntmps46
  go_wp2_with fail
  refine (l6Open_any A n c bs w H.out HB.out hn hc).mono ?_
  rintro e w1 ⟨rfl, hr, hb1, hs1⟩
  have HR := Lib.hid hr
  have HB1 := Lib.hid hb1
  clear hr hb1 H HB
  go_wp2_with fail
  refine (l93Bill_any w.heap.size 0 w1 HR.out (by omega)).mono ?_
  rintro e w2 ⟨N, v, xs, rfl, k0, k1, hl, hd⟩
  have D2 := Lib.hid hd
  clear hd HR
  obtain ⟨A', c', rfl, -, -⟩ := D2.out.2.2.2.1.slc enc3_len rfl
  go_wp2_with fail
  refine (l92At_any w.heap.size (0 + 40) xs.length w2 D2.out.2.1 (by omega) (by omega)).mono ?_
  rintro e w3 ⟨k, rfl, a0, a1, hr, hg⟩
  have D3 := Lib.hid (D2.out.pick hr hg)
  clear hr hg D2
  go_wp2_with fail
  go_ret3
  exact ⟨N, _, xs, k, rfl, k0, k1, hl, a0, by omega, D3.out.2.2.2.1.base_le (by omega), below_rd HB1.out D3.out.2.2.1⟩

set_option maxRecDepth 20000 in
set_option maxHeartbeats 3200000 in
theorem drawBillRoom_any (A : Option Addr) (n c : Nat) (bs : List Int) (w : World) (h : SlE 1 encU w A n bs) (hb : Bytes bs) (hn : n ≤ 1048576) (hc : n ≤ c) :
    Calls Try.prog 32 #[.slice A n c] w (DrewBR w) := by
  have H := Lib.hid h
  have HB := Lib.hid hb
  clear h hb
  go_enter Try.func32, Try.ntmps32
  go_wp2_with fail
  refine (l6Open_any A n c bs w H.out HB.out hn hc).mono ?_
  rintro e w1 ⟨rfl, hr, hb1, hs1⟩
  have HR := Lib.hid hr
  have HB1 := Lib.hid hb1
  clear hr hb1 H HB
  go_wp2_with fail
  refine (l93Bill_any w.heap.size 0 w1 HR.out (by omega)).mono ?_
  rintro e w2 ⟨N, v, xs, rfl, k0, k1, hl, hd⟩
  have D2 := Lib.hid hd
  clear hd HR
  go_wp2_with fail
  refine (l92Stretch_any w.heap.size (0 + 40) N w2 D2.out.2.1 (by omega) ⟨k0, by omega⟩).mono ?_
  rintro e w3 ⟨f, t, rfl, a0, a1, b0, b1, hr, hg⟩
  have D3 := Lib.hid (D2.out.pick hr hg)
  clear hr hg D2
  go_wp2_with fail
  (try simp only [Exit.inBlock, Exit.then])
  refine bodyPost_ret (results_tmp4 rfl _ _ _) rfl ?_
  exact ⟨N, v, xs, f, t, rfl, k0, k1, hl, ⟨a0, by omega⟩, ⟨b0, by omega⟩, D3.out.2.2.2.1.base_le (by omega), below_rd HB1.out D3.out.2.2.1⟩

set_option maxRecDepth 20000 in
set_option maxHeartbeats 3200000 in
theorem drawBillAdd_any (A : Option Addr) (n c : Nat) (bs : List Int) (w : World) (h : SlE 1 encU w A n bs) (hb : Bytes bs) (hn : n ≤ 1048576) (hc : n ≤ c) :
    Calls Try.prog 49 #[.slice A n c] w (DrewBA w) := by
  have H := Lib.hid h
  have HB := Lib.hid hb
  clear h hb
  go_enter Try.func49, Try.ntmps49
  go_wp2_with fail
  refine (l6Open_any A n c bs _ (H.out.alloc _) HB.out hn hc).mono ?_
  rintro e w1 ⟨rfl, hr, hb1, hs1⟩
  have X1 := Lib.hid ((boxAt_new w 0 0 0).below hb1 (Nat.le_refl _))
  have Z := Lib.hid (box_below w _ w1 (by rw [show (w.alloc (.cells #[.int .i64 0, .int .i64 0, .int .i64 0] 28)).heap.size = w.heap.size + 1 by simp] at hb1; exact hb1))
  have hzz : (w.alloc (.cells #[.int .i64 0, .int .i64 0, .int .i64 0] 28)).heap.size = w.heap.size + 1 := by simp
  rw [hzz] at hr hs1
  have HR := Lib.hid hr
  clear hr hb1 H HB hzz
  go_wp2_with fail
  refine (l93Bill_any (w.heap.size + 1) 0 w1 HR.out (by omega)).mono ?_
  rintro e w2 ⟨N, v, xs, rfl, k0, k1, hl, hd⟩
  have D2 := Lib.hid hd
  clear hd HR
  go_wp2_with fail
  refine (l92Stretch_any (w.heap.size + 1) (0 + 40) N w2 D2.out.2.1 (by omega) ⟨k0, by omega⟩).mono ?_
  rintro e w3 ⟨x, y, rfl, a0, a1, b0, b1, hr, hg⟩
  have D3 := Lib.hid (D2.out.pick hr hg)
  clear hr hg D2
  go_wp2_with fail
  refine (pick_any (w.heap.size + 1) (0 + 40 + 3) 99 w3 D3.out.2.1 (by omega) (by omega)).mono ?_
  rintro e w5 ⟨z, rfl, c0, c1, -, hr, hg⟩
  have c1 := c1 (by omega)
  have D5 := Lib.hid (D3.out.pick hr hg)
  clear hr hg D3
  have X5 := Lib.hid (X1.out.apart D5.out.2.2.1 (by simp))
  have s3 := own3_set (j := 0) X5.out rfl (by omega) x y (1 + z)
  have hne : v.ownBlock = none ∨ v.ownBlock ≠ some w.heap.size := by
    by_cases e : v.ownBlock = some w.heap.size
    · have := (D5.out.2.2.2.1.lt _ e).1
      omega
    · exact .inr e
  have O6 := Lib.hid (OwnE.apart D5.out.2.2.2.1 s3.2 hne)
  have Z5 := Lib.hid (Z.out.grown D5.out.2.2.1 Z.out.size (fun j hj => by injection hj with hj; omega))
  have B6 := Lib.hid (Z5.out.grown s3.2 Z5.out.size (fun j hj => by injection hj with hj; omega))
  have X6 := Lib.hid s3.1
  obtain ⟨q0, q1, q2⟩ := X5.out.cells
  have hfz := OwnE.frozen X5.out
  clear s3 hne
  go_wp2_with fail
  have Y6 := X6.out
  obtain ⟨r0, r1, r2⟩ := OwnE.cell3 Y6 (j := 0) (x := x) (y := y) (z := 1 + z) rfl
  refine bodyPost_ret (v := .tuple #[.int .i64 N, v, .agg #[.int .i64 x, .int .i64 y, .int .i64 (1 + z)]]) (by simp [results, Try.results49, go_sem, r0, r1, r2]) rfl ?_
  exact ⟨N, v, xs, x, y, 1 + z, rfl, k0, k1, hl, ⟨a0, by omega⟩, ⟨b0, by omega⟩, ⟨by omega, by omega⟩, O6.out.base_le (by omega), B6.out⟩

/-- Two way-bills have been drawn. -/
def DrewBJ (w : World) (e : Ending) (w' : World) : Prop :=
  ∃ (n : Int) (A B : Option Addr) (l m c d : Nat) (xs ys : List T3), e = .returned (.tuple #[.int .i64 n, .slice A l c, .slice B m d]) ∧ 1 ≤ n ∧ n ≤ 6 ∧ l ≤ 8 ∧ m ≤ 8 ∧ SlE 3 enc3 w' A l xs ∧ SlE 3 enc3 w' B m ys ∧ Below w.heap.size w w'

set_option maxRecDepth 20000 in
set_option maxHeartbeats 3200000 in
theorem drawBillJoin_any (A : Option Addr) (n c : Nat) (bs : List Int) (w : World) (h : SlE 1 encU w A n bs) (hb : Bytes bs) (hn : n ≤ 1048576) (hc : n ≤ c) :
    Calls Try.prog 51 #[.slice A n c] w (DrewBJ w) := by
  have H := Lib.hid h
  have HB := Lib.hid hb
  clear h hb
  go_enter Try.func51, Try.ntmps51
  go_wp2_with fail
  refine (l6Open_any A n c bs w H.out HB.out hn hc).mono ?_
  rintro e w1 ⟨rfl, hr, hb1, hs1⟩
  have HR := Lib.hid hr
  have HB1 := Lib.hid hb1
  clear hr hb1 H HB
  go_wp2_with fail
  refine (l93Bill_any w.heap.size 0 w1 HR.out (by omega)).mono ?_
  rintro e w2 ⟨N, v, xs, rfl, k0, k1, hl, hd⟩
  have D2 := Lib.hid hd
  clear hd HR
  obtain ⟨A', c', rfl, -, hlc⟩ := D2.out.2.2.2.1.slc enc3_len rfl
  generalize hlen : xs.length = len at *
  have HL := Lib.hid hlen
  clear hlen
  go_wp2_with fail
  refine (pick_any w.heap.size (0 + 40) ((len : Int) + 1) w2 D2.out.2.1 (by omega) (by omega)).mono ?_
  rintro e w3 ⟨p, rfl, p0, p1, -, hr, hg⟩
  have p1 := p1 (by omega)
  obtain ⟨p, rfl⟩ : ∃ i : Nat, p = i := ⟨p.toNat, by omega⟩
  have D3 := Lib.hid (D2.out.pick hr hg)
  clear hr hg D2
  go_wp2_with fail
  refine (pick_any w.heap.size (0 + 40 + 1) 4 w3 D3.out.2.1 (by omega) (by omega)).mono ?_
  rintro e w4 ⟨q, rfl, q0, q1, -, hr, hg⟩
  have D4 := Lib.hid (D3.out.pick hr hg)
  have S4 := Lib.hid (sl_of_own_at enc3_len D4.out.2.2.2.1 HL.out)
  clear hr hg D3 q1
  by_cases e0 : q = 0
  · go_wp2_with fail
    go_ret3
    exact ⟨N, A', A', len, len, c', c', xs, xs, rfl, k0, k1, by omega, by omega, S4.out, S4.out, below_rd HB1.out D4.out.2.2.1⟩
  · have f0 : (q == 0) = false := by simp; omega
    have hpl : p ≤ len := by omega
    have i1 : (0 : Int) ≤ (p : Int) := by omega
    have i2 : (p : Int) ≤ (c' : Int) := by omega
    have i3 : (p : Int) ≤ (len : Int) := by omega
    have i4 : (len : Int) ≤ (c' : Int) := by omega
    have ST := Lib.hid (S4.out.take hpl)
    have SD := Lib.hid (S4.out.cut hpl hlc)
    go_wp2_with fail
    go_quiet (fail)
    generalize (if c' = p then A' else Option.map (fun x => x.add (p * 3)) A') = A9 at *
    go_wp2_with fail
    go_ret3
    exact ⟨N, A', A9, p, len - p, c', c' - p, xs.take p, xs.drop p, rfl, k0, k1, by omega, by omega, ST.out.drewN nq, SD.out.drewN nq, bl_drewN (below_rd HB1.out D4.out.2.2.1) nq⟩
end Go.Proofs.Ytdfgogcefnamcaa
