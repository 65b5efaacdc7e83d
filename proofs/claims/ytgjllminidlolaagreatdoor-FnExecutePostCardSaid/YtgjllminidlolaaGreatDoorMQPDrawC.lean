/- Contracts: the draws of letters. -/
import Derived.Test.YtgjllminidlolaaGreatDoorMQPDrawB
set_option linter.unusedVariables false
namespace Go.Proofs.YtgjllminidlolaaGreatDoor
open Go.RowKit

theorem results_tmp5 {fn : Func} {t u v x y : Tmp} (h : fn.results = #[.tmp t, .tmp u, .tmp v, .tmp x, .tmp y]) (tmps : Array Value) (P : Program) (w : World) :
    (results fn tmps).run P w = .ok (.tuple #[tmps.getD t undef, tmps.getD u undef, tmps.getD v undef, tmps.getD x undef, tmps.getD y undef]) w := by
  simp [results, h]
theorem results_tmp6 {fn : Func} {t u v x y z : Tmp} (h : fn.results = #[.tmp t, .tmp u, .tmp v, .tmp x, .tmp y, .tmp z]) (tmps : Array Value) (P : Program) (w : World) :
    (results fn tmps).run P w = .ok (.tuple #[tmps.getD t undef, tmps.getD u undef, tmps.getD v undef, tmps.getD x undef, tmps.getD y undef, tmps.getD z undef]) w := by
  simp [results, h]
/-- A number has been drawn. -/
def DrawnI (w : World) (R m : Nat) (e : Ending) (w' : World) : Prop := ∃ x, e = .returned (.int .i64 x) ∧ RdAt w' R m ∧ w.grownBy w' (some R)
set_option maxRecDepth 20000 in
set_option maxHeartbeats 1600000 in
theorem l92Change_any (R m : Nat) (w : World) (h : RdAt w R m) (hm : m ≤ 50000) :
    Calls Tryz.prog 122 #[.pointer (some ⟨R, 0, none⟩)] w (DrawnI w R (m + 3)) := by
  have hRw := h.lt
  have H := Lib.hid h
  clear h
  go_enter Tryz.func122, Tryz.ntmps122
  go_wp2_with fail
  refine (pick_any R m 30 w H.out (by omega) (by omega)).mono ?_
  rintro e w1 ⟨x1, rfl, a0, a1, -, hr, hg⟩
  have hR1 := Nat.lt_of_lt_of_le hRw hg.size
  have HR1 := Lib.hid hr
  have HG1 := Lib.hid hg
  clear hr hg H a1
  by_cases e0 : x1 = 0
  · have HRa := Lib.hid (HR1.out.below (below_alloc (Below.refl _ w1) (.cells #[.int .i64 (-1), .int .i64 301] 3)) (Nat.le_refl _))
    go_wp2_with fail
    refine (pick_any R (m + 1) 2 _ HRa.out (by omega) (by omega)).mono ?_
    rintro e w2 ⟨y, rfl, c0, c1, -, hr, hg⟩
    have c1 := c1 (by omega)
    obtain ⟨y, rfl⟩ : ∃ i : Nat, y = i := ⟨y.toNat, by omega⟩
    obtain ⟨z, hz, hzm⟩ := lit_at [-1, 301] _ rfl (by simp) hg hR1 (x := y) (by simp; omega)
    have HR2 := Lib.hid (hr.mono (show m + 1 + 1 ≤ m + 3 by omega))
    have HG2 := Lib.hid (grown_trans (grown_alloc HG1.out _) hg)
    clear hr hg hzm
    go_wp2_with fail
    go_ret
    exact ⟨z, rfl, HR2.out, HG2.out⟩
  · go_wp2_with fail
    refine (pick_any R (m + 1) 3 w1 HR1.out (by omega) (by omega)).mono ?_
    rintro e w2 ⟨y, rfl, c0, c1, -, hr, hg⟩
    have HR2 := Lib.hid hr
    have HG2 := Lib.hid (grown_trans HG1.out hg)
    clear hr hg
    go_wp2_with fail
    refine (pick_any R (m + 1 + 1) 9 w2 HR2.out (by omega) (by omega)).mono ?_
    rintro e w3 ⟨z, rfl, d0, d1, -, hr, hg⟩
    have HR3 := Lib.hid hr
    have HG3 := Lib.hid (grown_trans HG2.out hg)
    clear hr hg
    go_wp2_with fail
    go_ret
    exact ⟨_, rfl, HR3.out, HG3.out⟩

/-- A number, a net, a town, a time and a change have been drawn. -/
def DrawnL (w : World) (R m : Nat) (e : Ending) (w' : World) : Prop :=
  ∃ n v net a t c, e = .returned (.tuple #[.int .i64 n, v, .int .i64 a, .int .i64 t, .int .i64 c]) ∧ 2 ≤ n ∧ n ≤ 6 ∧ net.length ≤ 6 ∧ (∀ xs ∈ net, xs.length ≤ 6) ∧ DGN w R m v net w'
set_option maxRecDepth 20000 in
set_option maxHeartbeats 6400000 in
theorem l92Post_any (R m : Nat) (w : World) (h : RdAt w R m) (hm : m ≤ 30000) :
    Calls Tryz.prog 94 #[.pointer (some ⟨R, 0, none⟩)] w (DrawnL w R (m + 240)) := by
  have H := Lib.hid h
  clear h
  go_enter Tryz.func94, Tryz.ntmps94
  go_wp2_with fail
  refine (l92Net_any R m w H.out (by omega)).mono ?_
  rintro e w1 ⟨n, v, net, rfl, n1, n2, hl, h6, hd⟩
  have D1 := Lib.hid hd
  have H6 := Lib.hid h6
  obtain ⟨A, ln, c, rfl, hln, -⟩ : ∃ A ln c, v = .slice A ln c ∧ net.length = ln ∧ True := by
    obtain ⟨A, c, h1, h2, -⟩ := hd.2.2.2.netS
    exact ⟨A, _, c, h1, rfl, trivial⟩
  have HLN := Lib.hid hln
  have hln6 : ln ≤ 6 := by omega
  clear hd h6 H hln hl
  go_wp2_with fail
  refine (l91Town_any R (m + 220) n w1 D1.out.2.1 (by omega) (by omega) (by omega)).mono ?_
  rintro e w2 ⟨a, rfl, -, -, hr, hg⟩
  have D2 := Lib.hid (D1.out.pick hr hg)
  clear hr hg D1
  by_cases hl0 : ln = 0
  · subst hl0
    go_wp2_with fail
    refine (pick_any R (m + 220 + 2) 120 w2 D2.out.2.1 (by omega) (by omega)).mono ?_
    rintro e w5 ⟨t1, rfl, -, -, -, hr, hg⟩
    have D5 := Lib.hid (D2.out.pick hr hg)
    clear hr hg
    go_wp2_with fail
    refine (pick_any R (m + 220 + 2 + 1) 30 w5 D5.out.2.1 (by omega) (by omega)).mono ?_
    rintro e w6 ⟨t2, rfl, -, -, -, hr, hg⟩
    have D6 := Lib.hid (D5.out.pick hr hg)
    clear hr hg D5
    go_wp2_with fail
    refine (l92Change_any R (m + 220 + 2 + 1 + 1) w6 D6.out.2.1 (by omega)).mono ?_
    rintro e w7 ⟨ch, rfl, hr, hg⟩
    have D7 := Lib.hid (D6.out.pick hr hg)
    clear hr hg D6
    go_wp2_with fail
    (try simp only [Exit.inBlock, Exit.then])
    refine bodyPost_ret (results_tmp5 rfl _ _ _) rfl ?_
    exact ⟨n, _, net, _, _, ch, rfl, n1, n2, by rw [HLN.out]; exact hln6, H6.out, D7.out.mono (by omega)⟩
  have hlz : (0 : Int) < (ln : Int) := by omega
  have hlp : 0 < ln := by omega
  obtain ⟨bb, off, sA, sn, sc, zs, rfl, hz, hcell, hsl, -, -⟩ := D2.out.2.2.2.at_ HLN.out (Below.refl _ _) hlp
  rw [Nat.add_zero] at hcell
  have HZ := Lib.hid hz
  have HSN := Lib.hid hsl.len
  clear hz hsl
  by_cases hs0 : sn = 0
  · subst hs0
    go_wp2_with fail
    refine (pick_any R (m + 220 + 2) 120 w2 D2.out.2.1 (by omega) (by omega)).mono ?_
    rintro e w5 ⟨t1, rfl, -, -, -, hr, hg⟩
    have D5 := Lib.hid (D2.out.pick hr hg)
    clear hr hg
    go_wp2_with fail
    refine (pick_any R (m + 220 + 2 + 1) 30 w5 D5.out.2.1 (by omega) (by omega)).mono ?_
    rintro e w6 ⟨t2, rfl, -, -, -, hr, hg⟩
    have D6 := Lib.hid (D5.out.pick hr hg)
    clear hr hg D5
    go_wp2_with fail
    refine (l92Change_any R (m + 220 + 2 + 1 + 1) w6 D6.out.2.1 (by omega)).mono ?_
    rintro e w7 ⟨ch, rfl, hr, hg⟩
    have D7 := Lib.hid (D6.out.pick hr hg)
    clear hr hg D6
    go_wp2_with fail
    (try simp only [Exit.inBlock, Exit.then])
    refine bodyPost_ret (results_tmp5 rfl _ _ _) rfl ?_
    exact ⟨n, _, net, _, _, ch, rfl, n1, n2, by rw [HLN.out]; exact hln6, H6.out, D7.out.mono (by omega)⟩
  have hsz : (0 : Int) < (sn : Int) := by omega
  go_wp2_with fail
  refine (pick_any R (m + 220 + 2) 2 w2 D2.out.2.1 (by omega) (by omega)).mono ?_
  rintro e w3 ⟨x3, rfl, -, -, -, hr, hg⟩
  have D3 := Lib.hid (D2.out.pick hr hg)
  clear hr hg D2 hcell
  by_cases hx3 : x3 = 0
  · obtain ⟨bb', off', tA, tn, tc, ys, hA, hz, hcell, hsl, -, -⟩ := D3.out.2.2.2.at_ HLN.out (Below.refl _ _) hlp
    injection hA with hA
    injection hA with hA1 hA2
    subst hA1 hA2
    have hys : ys = zs := by
      rw [HZ.out] at hz
      injection hz with hz
      exact hz.symm
    have htn : 0 < tn := by rw [← hsl.len, hys, HSN.out]; omega
    rw [Nat.add_zero] at hcell
    obtain ⟨cb, coff, px, py, pz, rfl, -, -, -, g0, g1, g2⟩ := at3 hsl (Below.refl _ _) htn
    have htz : (0 : Int) < (tn : Int) := by omega
    clear hz hsl hys
    simp only [Nat.zero_mul, Nat.add_zero] at g0 g1 g2
    go_wp2_with fail
    refine (pick_any R (m + 220 + 2 + 1) 120 w3 D3.out.2.1 (by omega) (by omega)).mono ?_
    rintro e w5 ⟨t1, rfl, -, -, -, hr, hg⟩
    have D5 := Lib.hid (D3.out.pick hr hg)
    clear hr hg
    go_wp2_with fail
    refine (pick_any R (m + 220 + 2 + 1 + 1) 30 w5 D5.out.2.1 (by omega) (by omega)).mono ?_
    rintro e w6 ⟨t2, rfl, -, -, -, hr, hg⟩
    have D6 := Lib.hid (D5.out.pick hr hg)
    clear hr hg D5
    go_wp2_with fail
    refine (l92Change_any R (m + 220 + 2 + 1 + 1 + 1) w6 D6.out.2.1 (by omega)).mono ?_
    rintro e w7 ⟨ch, rfl, hr, hg⟩
    have D7 := Lib.hid (D6.out.pick hr hg)
    clear hr hg D6
    go_wp2_with fail
    (try simp only [Exit.inBlock, Exit.then])
    refine bodyPost_ret (results_tmp5 rfl _ _ _) rfl ?_
    exact ⟨n, _, net, _, _, ch, rfl, n1, n2, by rw [HLN.out]; exact hln6, H6.out, D7.out.mono (by omega)⟩
  · go_wp2_with fail
    refine (pick_any R (m + 220 + 2 + 1) 120 w3 D3.out.2.1 (by omega) (by omega)).mono ?_
    rintro e w5 ⟨t1, rfl, -, -, -, hr, hg⟩
    have D5 := Lib.hid (D3.out.pick hr hg)
    clear hr hg
    go_wp2_with fail
    refine (pick_any R (m + 220 + 2 + 1 + 1) 30 w5 D5.out.2.1 (by omega) (by omega)).mono ?_
    rintro e w6 ⟨t2, rfl, -, -, -, hr, hg⟩
    have D6 := Lib.hid (D5.out.pick hr hg)
    clear hr hg D5
    go_wp2_with fail
    refine (l92Change_any R (m + 220 + 2 + 1 + 1 + 1) w6 D6.out.2.1 (by omega)).mono ?_
    rintro e w7 ⟨ch, rfl, hr, hg⟩
    have D7 := Lib.hid (D6.out.pick hr hg)
    clear hr hg D6
    go_wp2_with fail
    (try simp only [Exit.inBlock, Exit.then])
    refine bodyPost_ret (results_tmp5 rfl _ _ _) rfl ?_
    exact ⟨n, _, net, _, _, ch, rfl, n1, n2, by rw [HLN.out]; exact hln6, H6.out, D7.out.mono (by omega)⟩
/-- A number, a net, two towns, a time and a change have been drawn. -/
def DrawnO (w : World) (R m : Nat) (e : Ending) (w' : World) : Prop :=
  ∃ n v net a b t c, e = .returned (.tuple #[.int .i64 n, v, .int .i64 a, .int .i64 b, .int .i64 t, .int .i64 c]) ∧ 2 ≤ n ∧ n ≤ 6 ∧ net.length ≤ 6 ∧ (∀ xs ∈ net, xs.length ≤ 6) ∧ DGN w R m v net w'
set_option maxRecDepth 20000 in
set_option maxHeartbeats 3200000 in
theorem l92To_any (R m : Nat) (w : World) (h : RdAt w R m) (hm : m ≤ 20000) :
    Calls Tryz.prog 58 #[.pointer (some ⟨R, 0, none⟩)] w (DrawnO w R (m + 250)) := by
  have H := Lib.hid h
  clear h
  go_enter Tryz.func58, Tryz.ntmps58
  go_wp2_with fail
  refine (l92Post_any R m w H.out (by omega)).mono ?_
  rintro e w1 ⟨n, v, net, a, t, c, rfl, n1, n2, hl, h6, hd⟩
  have D1 := Lib.hid hd
  have H6 := Lib.hid h6
  have HL := Lib.hid hl
  clear hd h6 H hl
  go_wp2_with fail
  refine (l91Town_any R (m + 240) n w1 D1.out.2.1 (by omega) (by omega) (by omega)).mono ?_
  rintro e w2 ⟨b, rfl, -, -, hr, hg⟩
  have D2 := Lib.hid (D1.out.pick hr hg)
  clear hr hg D1
  go_wp2_with fail
  (try simp only [Exit.inBlock, Exit.then])
  refine bodyPost_ret (results_tmp6 rfl _ _ _) rfl ?_
  exact ⟨n, v, net, a, b, t, c, rfl, n1, n2, HL.out, H6.out, D2.out.mono (by omega)⟩
def DrewO (w : World) (e : Ending) (w' : World) : Prop :=
  ∃ n v net a b t c, e = .returned (.tuple #[.int .i64 n, v, .int .i64 a, .int .i64 b, .int .i64 t, .int .i64 c]) ∧ 2 ≤ n ∧ n ≤ 6 ∧ net.length ≤ 6 ∧ (∀ xs ∈ net, xs.length ≤ 6) ∧ NetB w.heap.size w' v net ∧ Below w.heap.size w w'
theorem NetB.base_le {base base' : Nat} {W : World} {v : Value} {net : List (List T3)} (h : NetB base W v net) (hb : base' ≤ base) : NetB base' W v net := by
  obtain ⟨ss, h1, h2, h3⟩ := h
  exact ⟨ss, h1.base_le hb, h2, fun j s xs hs hx => ⟨(h3 j s xs hs hx).1.base_le hb, (h3 j s xs hs hx).2⟩⟩
set_option maxRecDepth 20000 in
set_option maxHeartbeats 1600000 in
theorem drawPostArrive_any (A : Option Addr) (n c : Nat) (bs : List Int) (w : World) (h : SlE 1 encU w A n bs) (hb : Bytes bs) (hn : n ≤ 1048576) (hc : n ≤ c) :
    Calls Tryz.prog 27 #[.slice A n c] w (DrewO w) := by
  have H := Lib.hid h
  have HB := Lib.hid hb
  clear h hb
  go_enter Tryz.func27, Tryz.ntmps27
  go_wp2_with fail
  refine (l6Open_any A n c bs w H.out HB.out hn hc).mono ?_
  rintro e w1 ⟨rfl, hr, hb1, hs1⟩
  have HR := Lib.hid hr
  have HB1 := Lib.hid hb1
  clear hr hb1 H HB
  go_wp2_with fail
  refine (l92To_any w.heap.size 0 w1 HR.out (by omega)).mono ?_
  rintro e w2 ⟨k, v, net, a, b, t, ch, rfl, k0, k1, hl, h6, hd⟩
  have D2 := Lib.hid hd
  have H6 := Lib.hid h6
  have HL := Lib.hid hl
  clear hd h6 hl HR
  go_wp2_with fail
  (try simp only [Exit.inBlock, Exit.then])
  refine bodyPost_ret (results_tmp6 rfl _ _ _) rfl ?_
  exact ⟨k, v, net, a, b, t, ch, rfl, k0, k1, HL.out, H6.out, D2.out.2.2.2.base_le (by omega), below_rd HB1.out D2.out.2.2.1⟩
end Go.Proofs.YtgjllminidlolaaGreatDoor
