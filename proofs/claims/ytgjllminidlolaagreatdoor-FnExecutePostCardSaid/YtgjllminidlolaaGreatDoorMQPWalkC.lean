/- Contracts: NetValid of both; slices.Repeat; newPostTable. -/
import Derived.Test.YtgjllminidlolaaGreatDoorMQPWalkE
import Derived.Laws.CopyOwn
import Derived.Deep.RegionHeld3
set_option linter.unusedVariables false
namespace Go.Proofs.YtgjllminidlolaaGreatDoor
open Go.RowKit

/-- The first so many timetables are valid. -/
def NetPre (n : Int) (net : List (List T3)) (k : Nat) : Prop := ∀ (i : Nat) xs, i < k → net[i]? = some xs → StopsOk n xs
theorem netPre_next {n : Int} {net : List (List T3)} {k : Nat} {xs : List T3} (h : NetPre n net k) (hx : net[k]? = some xs) (ho : StopsOk n xs) : NetPre n net (k + 1) := fun i ys hi hy => by
  by_cases e : i = k
  · subst e
    rw [hx] at hy
    injection hy with hy
    subst hy
    exact ho
  · exact h i ys (by omega) hy
theorem net_all {n : Int} {net : List (List T3)} (h : NetPre n net net.length) (h1 : 1 ≤ n ∧ n ≤ 8) (h6 : net.length ≤ 6) : NetOk n net :=
  ⟨h1.1, h1.2, h6, fun xs hx => by
    obtain ⟨i, hi⟩ := List.getElem?_of_mem hx
    exact h i xs (List.getElem?_eq_some_iff.1 hi).1 hi⟩
theorem net_bad {n : Int} {net : List (List T3)} {k : Nat} {xs : List T3} (hx : net[k]? = some xs) (h : ¬ StopsOk n xs) : ¬ NetOk n net := fun hn => h (hn.2.2.2 xs (List.mem_of_getElem? hx))

/-- Timetables that are not too long. -/
def NetLen (net : List (List T3)) : Prop := ∀ xs ∈ net, xs.length ≤ 16777216
set_option maxRecDepth 20000 in
set_option maxHeartbeats 1600000 in
theorem implNetValid_any (A : Option Addr) (n : Int) (m cap : Nat) (net : List (List T3)) (w : World) (h : NetS w A m net) (hm : m ≤ 16777216) (hl : NetLen net) :
    Calls Tryz.prog 123 #[.int .i64 n, .slice A m cap] w (OnlyB (NetOk n net) w) := by
  have H := Lib.hid h
  have HL := Lib.hid h.len
  have HLL := Lib.hid hl
  clear h hl
  by_cases hr : (1 ≤ n ∧ n ≤ 8) ∧ m ≤ 6
  rotate_left
  · have HN := Lib.hid (show ¬ NetOk n net from fun hB => hr (by have h1 := hB.1; have h2 := hB.2.1; have h3 := hB.2.2.1; rw [HL.out] at h3; omega))
    by_cases c1 : n < 1
    · go_enter Tryz.func123, Tryz.ntmps123
      go_wp2_with fail
      go_ret
      exact onlyB_false HN.out (Below.refl _ _)
    by_cases c2 : 8 < n
    · go_enter Tryz.func123, Tryz.ntmps123
      go_wp2_with fail
      go_ret
      exact onlyB_false HN.out (Below.refl _ _)
    have c3 : 6 < (m : Int) := by omega
    go_enter Tryz.func123, Tryz.ntmps123
    go_wp2_with fail
    go_ret
    exact onlyB_false HN.out (Below.refl _ _)
  obtain ⟨⟨r1, r2⟩, r3⟩ := hr
  have c1 : ¬ n < 1 := by omega
  have c2 : ¬ 8 < n := by omega
  have c3 : ¬ 6 < (m : Int) := by omega
  go_enter Tryz.func123, Tryz.ntmps123
  go_wp2_with fail
  go_loopw [20] (fun i wr => ∃ k : Nat, k ≤ m ∧ i = .int .i64 k ∧ NetPre n net k ∧ Below w.heap.size w wr) (fun i _ => m - (intOf i).toNat)
  case atStart => exact ⟨0, by omega, rfl, fun i xs h => absurd h (by omega), Below.refl _ _⟩
  case round =>
    obtain ⟨k, hk, rfl, hpre, hbr⟩ := hrel
    have HP := Lib.hid hpre
    have HR := Lib.hid hbr
    clear hpre hbr
    by_cases hkm : k < m
    rotate_left
    · obtain rfl : k = m := by omega
      have HN := Lib.hid (net_all (n := n) (net := net) (by rw [HL.out]; exact HP.out) ⟨r1, r2⟩ (by rw [HL.out]; exact r3))
      go_wp2_with fail
      go_ret
      exact onlyB_true HN.out HR.out
    obtain ⟨b, off, A', n', c', xs, rfl, hbl, hcell, hx, hsl, hnc⟩ := H.out.at_ HR.out hkm
    have HX := Lib.hid hx
    have HSV := Lib.hid (implStopsValid_any A' n n' c' xs wr (hsl.below HR.out) (by have := HLL.out xs (List.mem_of_getElem? hx); rw [hsl.len] at this; exact this))
    clear hx hsl
    go_wp2_with fail
    refine HSV.out.mono ?_
    intro e w2 hp
    rcases hp.cases with ⟨rfl, hok, hb2⟩ | ⟨rfl, hno, hb2⟩
    · have HN := Lib.hid (netPre_next HP.out HX.out hok)
      have HB2 := Lib.hid (below_trans HR.out hb2)
      clear hok hb2 hp
      go_wp2_with fail
      go_roundw
      case rel => exact ⟨k + 1, by omega, by go_num, HN.out, HB2.out⟩
      case measure => simp [intOf]; omega
    · have HN := Lib.hid (net_bad HX.out hno)
      have HB2 := Lib.hid (below_trans HR.out hb2)
      clear hno hb2 hp
      go_wp2_with fail
      go_ret
      exact onlyB_false HN.out HB2.out

set_option maxRecDepth 20000 in
set_option maxHeartbeats 1600000 in
theorem specNetValid_any (A : Option Addr) (n : Int) (m cap : Nat) (net : List (List T3)) (w : World) (h : NetS w A m net) (hm : m ≤ 16777216) (hl : NetLen net) (h1 : -1000000 ≤ n) (h2 : n ≤ 1000000) :
    Calls Tryz.prog 130 #[.int .i64 n, .slice A m cap] w (OnlyB (NetOk n net) w) := by
  have H := Lib.hid h
  have HL := Lib.hid h.len
  have HLL := Lib.hid hl
  clear h hl
  go_enter Tryz.func130, Tryz.ntmps130
  go_wp2_with fail
  go_loopw [5] (fun i wr => ∃ k : Nat, k ≤ m ∧ i = .int .i64 k ∧ NetPre n net k ∧ Below w.heap.size w wr) (fun i _ => m - (intOf i).toNat)
  case atStart => exact ⟨0, by omega, rfl, fun i xs h => absurd h (by omega), Below.refl _ _⟩
  case round =>
    obtain ⟨k, hk, rfl, hpre, hbr⟩ := hrel
    have HP := Lib.hid hpre
    have HR := Lib.hid hbr
    clear hpre hbr
    by_cases hkm : k < m
    rotate_left
    · obtain rfl : k = m := by omega
      by_cases hn8 : 1 ≤ n ∧ n ≤ 8
      · by_cases hk6 : (k : Int) ≤ 6
        · have HN := Lib.hid (net_all (n := n) (net := net) (by rw [HL.out]; exact HP.out) hn8 (by rw [HL.out]; omega))
          go_wp2_with fail
          refine (l6In_any _ _ _ _).mono ?_
          intro e w2 hp
          obtain ⟨rfl, rfl⟩ := hp.yes hn8
          clear hp
          go_wp2_with fail
          go_ret
          exact onlyB_true HN.out HR.out
        · have HN := Lib.hid (show ¬ NetOk n net from fun hB => hk6 (by have h3 := hB.2.2.1; rw [HL.out] at h3; omega))
          have HK6 := Lib.hid hk6
          go_wp2_with fail
          refine (l6In_any _ _ _ _).mono ?_
          intro e w2 hp
          obtain ⟨rfl, rfl⟩ := hp.yes hn8
          clear hp
          go_wp2_with fail
          go_ret
          exact ⟨decide ((k : Int) ≤ 6), rfl, ⟨fun h => by have h1 := of_decide_eq_true h; have h2 := HK6.out; omega, fun h => absurd h HN.out⟩, HR.out⟩
      · have HN := Lib.hid (show ¬ NetOk n net from fun hB => hn8 ⟨hB.1, hB.2.1⟩)
        go_wp2_with fail
        refine (l6In_any _ _ _ _).mono ?_
        intro e w2 hp
        obtain ⟨rfl, rfl⟩ := hp.no hn8
        clear hp
        go_wp2_with fail
        go_ret
        exact onlyB_false HN.out HR.out
    obtain ⟨b, off, A', n', c', xs, rfl, hbl, hcell, hx, hsl, hnc⟩ := H.out.at_ HR.out hkm
    have HX := Lib.hid hx
    have HSV := Lib.hid (specStopsValid_any A' n n' c' xs wr (hsl.below HR.out) (by have := HLL.out xs (List.mem_of_getElem? hx); rw [hsl.len] at this; exact this) h1 h2)
    clear hx hsl
    go_wp2_with fail
    refine HSV.out.mono ?_
    intro e w2 hp
    rcases hp.cases with ⟨rfl, hok, hb2⟩ | ⟨rfl, hno, hb2⟩
    · have HN := Lib.hid (netPre_next HP.out HX.out hok)
      have HB2 := Lib.hid (below_trans HR.out hb2)
      clear hok hb2 hp
      go_wp2_with fail
      go_roundw
      case rel => exact ⟨k + 1, by omega, by go_num, HN.out, HB2.out⟩
      case measure => simp [intOf]; omega
    · have HN := Lib.hid (net_bad HX.out hno)
      have HB2 := Lib.hid (below_trans HR.out hb2)
      clear hno hb2 hp
      go_wp2_with fail
      go_ret
      exact onlyB_false HN.out HB2.out

/-! ### slices.Repeat of one number -/
set_option maxRecDepth 20000 in
set_option maxHeartbeats 3200000 in
theorem mul64_small (n : Nat) (w : World) (h : n ≤ 8) : Calls Tryz.prog 199 #[.int .u64 1, .int .u64 n] w (Same (.tuple #[.int .u64 0, .int .u64 n]) w) := by
  rcases (by omega : n = 0 ∨ n = 1 ∨ n = 2 ∨ n = 3 ∨ n = 4 ∨ n = 5 ∨ n = 6 ∨ n = 7 ∨ n = 8) with rfl | rfl | rfl | rfl | rfl | rfl | rfl | rfl | rfl
  all_goals
    go_enter Tryz.func199, Tryz.ntmps199
    go_wp2
    go_ret2
    exact ⟨rfl, rfl⟩
set_option maxRecDepth 20000 in
set_option maxHeartbeats 1600000 in
theorem mul_small (n : Nat) (w : World) (h : n ≤ 8) : Calls Tryz.prog 167 #[.int .u64 1, .int .u64 n] w (Same (.tuple #[.int .u64 0, .int .u64 n]) w) := by
  have HM := Lib.hid (mul64_small n w h)
  go_enter Tryz.func167, Tryz.ntmps167
  go_wp2_with fail
  refine HM.out.mono ?_
  rintro e w2 ⟨rfl, rfl⟩
  go_wp2_with fail
  go_ret2
  exact ⟨rfl, rfl⟩
/-- How Repeat ends. -/
def Repeated (n : Nat) (w : World) (e : Ending) (w' : World) : Prop :=
  e = .returned (.slice (some ⟨w.heap.size, 0, none⟩) n n) ∧ w'.heap[w.heap.size]? = some (.cells (List.replicate n (.int .i64 (-1))).toArray 3 (0, 0)) ∧ Below w.heap.size w w'
theorem splice_rep (v u : Value) (n k c : Nat) (h : k + c ≤ n) : splice (List.replicate k v ++ List.replicate (n - k) u) k (List.replicate c v) = List.replicate (k + c) v ++ List.replicate (n - (k + c)) u := by
  unfold splice
  rw [List.take_left' (by simp), List.length_replicate, List.drop_append, List.length_replicate, List.drop_of_length_le (by simp), List.nil_append, show k + c - k = c by omega, List.drop_replicate, ← List.append_assoc, List.replicate_append_replicate, show n - k - c = n - (k + c) by omega]
set_option maxRecDepth 20000 in
set_option maxHeartbeats 3200000 in
theorem repeat_any (A : Option Addr) (c n : Nat) (w : World) (h : SlE 1 encI w A 1 [-1]) (h1 : 1 ≤ n) (h8 : n ≤ 8) :
    Calls Tryz.prog 126 #[.slice A 1 c, .int .i64 n] w (Repeated n w) := by
  obtain ⟨b, off, p, rfl, hbl, hp, -, g0⟩ := at1 h (Below.refl _ _) (show 0 < 1 by omega)
  simp only [List.getElem?_cons_zero, Option.some.injEq] at hp
  subst hp
  rw [Nat.add_zero] at g0
  have HG0 := Lib.hid g0
  have HM := Lib.hid (mul_small n w h8)
  have i0 : ¬ (n : Int) < 0 := by omega
  have i1 : ¬ (9223372036854775807 : Int) < (n : Int) := by omega
  have ew : IntKind.u64.wrap (n : Int) = (n : Int) := by
    have e : IntKind.u64.wrap (n : Int) = (n : Int) % 18446744073709551616 := by simp [IntKind.wrap, IntKind.bits, IntKind.signed]
    rw [e]
    omega
  have hmk : ∀ W : World, (Instr.makeSlice 29 (.int .i64 (n : Int)) (.int .i64 (n : Int))).run Tryz.prog W = .ok (.slice (some ⟨W.heap.size, 0, none⟩) n n) (W.alloc (.cells (List.replicate n (Value.int .i64 0)).toArray 3)) := fun W => by
    have h := run_make_rowN (P := Tryz.prog) 29 3 (.int .i64 0) 1 8 Tryz.underlying29 info_intN .i64 .i64 n (by omega) (by omega) W
    rw [Nat.mul_one] at h
    have e : madeCells (Value.int .i64 0).cells n = (List.replicate n (Value.int .i64 0)).toArray := by
      apply Array.ext'
      apply List.ext_getElem?
      intro j
      by_cases hj : j < n
      · simp [madeCells, hj, Value.cells, Nat.mod_one]
      · simp [madeCells, hj, Value.cells]
    rw [e] at h
    exact h
  have HI : Hid ((Tryz.prog.info? 3).map (·.size) = some 1) := Lib.hid (by kernel_rfl)
  have hW1 : (w.alloc (.cells (List.replicate n (Value.int .i64 0)).toArray 3)).heap[w.heap.size]? = some (.cells (List.replicate n (Value.int .i64 0)).toArray 3 (0, 0)) := heap_alloc_new w _
  have HW1 := Lib.hid hW1
  have HB1 := Lib.hid (below_alloc (Below.refl w.heap.size w) (.cells (List.replicate n (Value.int .i64 0)).toArray 3))
  clear hW1
  obtain ⟨ws, hws⟩ : ∃ ws : World → World, ∀ W, ws W = W.alloc (.cells (List.replicate n (Value.int .i64 0)).toArray 3) := ⟨_, fun _ => rfl⟩
  simp only [← hws] at hmk HW1 HB1
  clear hws
  have hgz : ∀ W, Below w.heap.size w W → W.cell? ⟨b, off, none⟩ = some (.int .i64 (-1)) := fun W hW => cell_below' hW HG0.out
  have HSRC : Hid (∀ (j : Nat) v, ([Value.int .i64 (-1)] : List Value)[j]? = some v → (ws w).cell? ((⟨b, off, none⟩ : Addr).add j) = some v) := Lib.hid (fun j v hv => by
    cases j with
    | zero =>
      simp at hv
      subst hv
      rw [addr_add', Nat.add_zero]
      exact hgz _ HB1.out
    | succ j => simp at hv)
  have HN1 : Hid (([Value.int .i64 (-1)] : List Value).length = Nat.min 1 n ∧ 0 + ([Value.int .i64 (-1)] : List Value).length ≤ (List.replicate n (Value.int .i64 0)).length ∧ ∀ v ∈ ([Value.int .i64 (-1)] : List Value), v.oneCell' = true) := Lib.hid ⟨by simp; exact (Nat.min_eq_left h1).symm, by simp; omega, by simp [Value.oneCell']⟩
  clear hgz
  go_enter Tryz.func126, Tryz.ntmps126
  go_wp2_with fail
  refine HM.out.mono ?_
  rintro e w2 ⟨rfl, rfl⟩
  go_wp2_with ((refine wpList_copy_splice rfl _ _ 29 29 rfl 3 Tryz.underlying29 HI.out _ _ _ _ _ _ rfl rfl w.heap.size 0 (List.replicate n (Value.int .i64 0)) 3 HW1.out [Value.int .i64 (-1)] HN1.out.1 (fun _ => ⟨rfl, _, rfl, HSRC.out⟩) HN1.out.2.1 HN1.out.2.2 w.heap.size w HB1.out (Nat.le_refl _) ?_; intro w3 hg3 hb3; have HB3 := Lib.hid hb3; clear hb3))
  have HG3 : Hid (w3.heap[w.heap.size]? = some (.cells (List.replicate 1 (Value.int .i64 (-1)) ++ List.replicate (n - 1) (Value.int .i64 0)).toArray 3 (0, 0))) := Lib.hid (by
    have h := hg3.out
    have e : splice (List.replicate n (Value.int .i64 0)) 0 [Value.int .i64 (-1)] = List.replicate 1 (Value.int .i64 (-1)) ++ List.replicate (n - 1) (Value.int .i64 0) := splice_rep (Value.int .i64 (-1)) (Value.int .i64 0) n 0 1 (by omega)
    rw [e] at h
    exact h)
  clear hg3 HSRC HN1 HW1 HB1 hmk
  go_loopw [8] (fun i wr => ∃ k : Nat, 1 ≤ k ∧ k ≤ n ∧ i = .int .i64 k ∧ Hid (wr.heap[w.heap.size]? = some (.cells (List.replicate k (Value.int .i64 (-1)) ++ List.replicate (n - k) (Value.int .i64 0)).toArray 3 (0, 0))) ∧ Below w.heap.size w wr) (fun i _ => n - (intOf i).toNat)
  case atStart => exact ⟨1, by omega, by omega, rfl, HG3, HB3.out⟩
  case round =>
    obtain ⟨k, hk1, hkn, rfl, HGR, hbr⟩ := hrel
    have HR := Lib.hid hbr
    clear hbr HG3 HB3
    by_cases hlt : k < n
    rotate_left
    · obtain rfl : k = n := by omega
      have HE : Hid (wr.heap[w.heap.size]? = some (.cells (List.replicate k (Value.int .i64 (-1))).toArray 3 (0, 0))) := Lib.hid (by
        have h := HGR.out
        rw [Nat.sub_self, List.replicate_zero, List.append_nil] at h
        exact h)
      clear HGR
      go_wp2_with fail
      go_ret
      exact ⟨rfl, HE.out, HR.out⟩
    have k0 : (0 : Int) ≤ (k : Int) := by omega
    have k1 : (k : Int) ≤ (n : Int) := by omega
    have k2 : (k : Int) < (n : Int) := by omega
    have k3 : ¬ n = k := by omega
    obtain ⟨q, hq⟩ : ∃ q, q = min k (n - k) := ⟨_, rfl⟩
    have hq1 : 1 ≤ q ∧ k + q ≤ n := by omega
    have HSR : Hid (∀ W : World, W.heap[w.heap.size]? = some (.cells (List.replicate k (Value.int .i64 (-1)) ++ List.replicate (n - k) (Value.int .i64 0)).toArray 3 (0, 0)) → ∀ (j : Nat) v, (List.replicate q (Value.int .i64 (-1)))[j]? = some v → W.cell? ((⟨w.heap.size, 0, none⟩ : Addr).add j) = some v) := Lib.hid (fun W hW j v hv => by
      have hj : j < q := by have := (List.getElem?_eq_some_iff.1 hv).1; simpa using this
      rw [List.getElem?_replicate, if_pos hj] at hv
      rw [addr_add', Nat.zero_add, cell_of_row W w.heap.size j _ 3 (0, 0) hW, ← hv]
      rw [List.getElem?_toArray, List.getElem?_append_left (by simp; omega), List.getElem?_replicate, if_pos (by omega)])
    have HN2 : Hid ((List.replicate q (Value.int .i64 (-1))).length = Nat.min k (n - k) ∧ k + (List.replicate q (Value.int .i64 (-1))).length ≤ (List.replicate k (Value.int .i64 (-1)) ++ List.replicate (n - k) (Value.int .i64 0)).length ∧ ∀ v ∈ List.replicate q (Value.int .i64 (-1)), v.oneCell' = true) := Lib.hid ⟨by rw [List.length_replicate, hq], by simp <;> omega, fun v hv => by rw [List.eq_of_mem_replicate hv]; rfl⟩
    have HSP := Lib.hid (splice_rep (Value.int .i64 (-1)) (Value.int .i64 0) n k q hq1.2)
    have eq1 : IntKind.i64.wrap ((k : Int) + (q : Int)) = ((k + q : Nat) : Int) := by rw [IntWalk.i64_in _ (by omega)]; omega
    have eql : (List.replicate q (Value.int .i64 (-1))).length = q := by simp
    have EQL := Lib.hid eql
    clear hq eql
    generalize List.replicate q (Value.int .i64 (-1)) = cs at *
    generalize List.replicate k (Value.int .i64 (-1)) ++ List.replicate (n - k) (Value.int .i64 0) = cur at *
    go_wp2_with fail
    go_region_held3 (fun w' => w'.heap[w.heap.size]? = some (.cells cur.toArray 3 (0, 0)) ∨ True)
      (first | exact .inr trivial | fail)
      (first
        | (refine step_copy_splice rfl (.tmp 41) (.tmp 44) 29 29 rfl 3 Tryz.underlying29 HI.out _ _ _ _ _ _ rfl rfl w.heap.size k cur 3 HGR.out cs HN2.out.1 (fun _ => ⟨rfl, _, rfl, HSR.out _ HGR.out⟩) HN2.out.2.1 HN2.out.2.2 w.heap.size w (below_drew HR.out) (Nat.le_refl _) ?_; intro w4 hg4 hb4; have HB4 := Lib.hid hb4; clear hb4)
        | fail)
    have HG4 : Hid (w4.heap[w.heap.size]? = some (.cells (List.replicate (k + q) (Value.int .i64 (-1)) ++ List.replicate (n - (k + q)) (Value.int .i64 0)).toArray 3 (0, 0))) := Lib.hid (by
      have h := hg4.out
      rw [HSP.out] at h
      exact h)
    have EQ2 := Lib.hid eq1
    clear hg4 HSP HSR HN2 HGR
    go_wp2_with fail
    go_roundw
    case rel => exact ⟨k + q, by omega, hq1.2, by rw [EQL.out, EQ2.out], HG4, HB4.out⟩
    case measure => simp [intOf]; rw [EQL.out]; omega
end Go.Proofs.YtgjllminidlolaaGreatDoor
