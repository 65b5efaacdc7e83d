/- The map of the trusts' tests: what trustTests hands back, and what a look-up in it gives. -/
import Derived.Test.YtngbpdijempkpaaGWalkB
import Derived.Maps.OwnSet
import Derived.Maps.OwnOps
set_option linter.unusedVariables false
namespace Go.Proofs.Ytngbpdijempkpaa
open Go.RowKit

/-- The test of a trust: the closure over the cell g. -/
def clo (g : Nat) : Value := .func (.func 72) #[] #[.pointer (some ⟨g, 0, none⟩)]
/-- How an element of that map reads: as itself. -/
def heldE : Value → Option (DataW Value × List MemPlace) := fun v => some (.held v, [])
def key (t : Int) : Lit := .int .i64 t
/-- The tests of the first k trusts are in the map. -/
def TestsAt (w : World) (B k : Nat) (D : DataW Value) : Prop :=
  Maps.IsMap D ∧ (∀ t : Int, 0 ≤ t → t < k → ∃ g, g < w.heap.size ∧ B < g ∧ w.cell? ⟨g, 0, none⟩ = some (.int .i64 t) ∧ Maps.has D (key t) = true ∧ ∀ z, D.atKey (key t) z = .held (clo g)) ∧
    ∀ t : Int, (t < 0 ∨ (k : Int) ≤ t) → Maps.has D (key t) = false
theorem isKey (t : Int) : WideAt.IsKeyLit (key t) := trivial
theorem key_ne {s t : Int} (h : s ≠ t) : key s ≠ key t := fun e => by unfold key at e; injection e with e1 e2; exact h e2
theorem testsAt_none (w : World) (B : Nat) : TestsAt w B 0 (.map []) := ⟨⟨_, rfl⟩, fun t h0 h1 => absurd h1 (by omega), fun t _ => rfl⟩
theorem testsAt_next {w w' : World} {B k g : Nat} {D : DataW Value} (h : TestsAt w B k D) (hgB : B < g) (hc : ∀ b, b < w.heap.size → b ≠ B → w'.cell? ⟨b, 0, none⟩ = w.cell? ⟨b, 0, none⟩) (hs : w.heap.size ≤ w'.heap.size)
    (hg : g < w'.heap.size) (hgc : w'.cell? ⟨g, 0, none⟩ = some (.int .i64 k)) : TestsAt w' B (k + 1) (D.put (key k) (.held (clo g))) := by
  obtain ⟨hD, h1, h2⟩ := h
  refine ⟨hD.put _ _, fun t h0 ht => ?_, fun t ht => ?_⟩
  · by_cases e : t = k
    · subst e
      exact ⟨g, hg, hgB, hgc, Maps.has_put_same hD (isKey _) _, fun z => Maps.atKey_put_same hD (isKey _) _ z⟩
    · obtain ⟨g', a, hB, b, c, d⟩ := h1 t h0 (by omega)
      exact ⟨g', by omega, hB, (hc g' a (Nat.ne_of_gt hB)).trans b, (Maps.has_put_other (key_ne e) _).trans c, fun z => (Maps.atKey_put_other (key_ne e) _ z).trans (d z)⟩
  · exact (Maps.has_put_other (key_ne (by omega)) _).trans (h2 t (by omega))
theorem testsAt_below {w w' : World} {B k : Nat} {D : DataW Value} (h : TestsAt w B k D) (hb : Below w.heap.size w w') : TestsAt w' B k D :=
  ⟨h.1, fun t h0 h1 => by
    obtain ⟨g, a, hB, b, c⟩ := h.2.1 t h0 h1
    exact ⟨g, Nat.lt_of_lt_of_le a hb.size, hB, (hb.cell (p := ⟨g, 0, none⟩) a).trans b, c⟩, h.2.2⟩

theorem law_int : Maps.Keyed Try.prog 3 := Maps.int_keyed Try.underlying3
theorem zero_test (w : World) : (zeroValue 62).run Try.prog w = .ok .nilFunc w := by kernel_rfl

theorem tests_kept {wr w1 : World} {B ty : Nat} {v : Value} (hg : (wr.alloc (.cells #[v] ty)).grownBy w1 (some B)) (hB : B < wr.heap.size) :
    (∀ b, b < wr.heap.size → b ≠ B → w1.cell? ⟨b, 0, none⟩ = wr.cell? ⟨b, 0, none⟩) ∧ w1.cell? ⟨wr.heap.size, 0, none⟩ = some v := by
  have h0 : ∀ b, b < wr.heap.size → (wr.alloc (.cells #[v] ty)).cell? ⟨b, 0, none⟩ = wr.cell? ⟨b, 0, none⟩ := fun b hb => (((Below.refl _ _).alloc (Nat.le_refl _) _ : Below wr.heap.size wr (wr.alloc (.cells #[v] ty))).cell (p := ⟨b, 0, none⟩) hb)
  have hk : ∀ b, b < (wr.alloc (.cells #[v] ty)).heap.size → b ≠ B → w1.cell? ⟨b, 0, none⟩ = (wr.alloc (.cells #[v] ty)).cell? ⟨b, 0, none⟩ := fun b hb hne => by
    unfold World.cell?
    rw [hg.block b hb (fun e => hne (by first | (cases e; rfl) | (simpa using e) | (simpa using e.symm)))]
  refine ⟨fun b hb hne => (hk b (by simp <;> omega) hne).trans (h0 b hb), ?_⟩
  rw [hk _ (by simp) (by omega), cell_of_row (wr.alloc (.cells #[v] ty)) wr.heap.size 0 #[v] ty (0, 0) (heap_alloc_new wr _)]
  rfl
/-- How trustTests ends. -/
def RetTests (w : World) (e : Ending) (w' : World) : Prop :=
  ∃ b D, e = .returned (.map (some b)) ∧ w'.ownsMap Try.prog 3 heldE b 4 D ∧ TestsAt w' b 4 D ∧ w.heap.size ≤ b ∧ Below w.heap.size w w'

set_option maxRecDepth 20000 in
set_option maxHeartbeats 1600000 in
theorem trustTests_any (w : World) : Calls Try.prog 66 #[] w (RetTests w) := by
  have hmm := @run_makeMap Try.prog
  go_enter Try.func66, Try.ntmps66
  go_wp2_with fail
  go_loopw [4, 2] (fun i _ wr => ∃ k : Nat, k ≤ 4 ∧ i = .int .i64 k ∧ (∃ D, wr.ownsMap Try.prog 3 heldE w.heap.size k D ∧ TestsAt wr w.heap.size k D) ∧ Below w.heap.size w wr) (fun i _ _ => 4 - (intOf i).toNat)
  case atStart => exact ⟨0, by omega, rfl, ⟨_, World.ownsMap_made _ _ _ _, testsAt_none _ _⟩, (Below.refl _ _).alloc (Nat.le_refl _) _⟩
  case round =>
    obtain ⟨k, hk, rfl, ⟨D, hown, hT⟩, hbr⟩ := hrel
    have HO := Lib.hid hown
    have HT := Lib.hid hT
    have HR := Lib.hid hbr
    have hsz := hbr.size
    have hlt := hown.lt
    have HC := Lib.hid (fun (w1 : World) (hg : (wr.alloc (.cells #[.int .i64 (k : Int)] 3)).grownBy w1 (some w.heap.size)) => tests_kept hg hlt)
    have hown0 := Lib.hid hlt
    clear hlt
    clear hown hT hbr hmm
    by_cases hlt : (k : Int) < 4
    · go_wp2_with (at_mapUpdate; refine wpList_mapUpdate_own _ rfl _ _ _ 71 rfl 3 62 law_int Try.underlying71 heldE w.heap.size k D rfl (HO.out.alloc _) (by unfold maxLen; omega) _ (clo wr.heap.size) (key k) rfl rfl (Maps.keyOf_int_mk Try.underlying3 (WalkArith.wf_i64 (by omega))) _ [] rfl ?_; intro w1 hown1 hg1; have HO1 := Lib.hid hown1; have HG1 := Lib.hid hg1; clear hown1 hg1)
      have hsz1 := HG1.out.size
      have hg1 : wr.heap.size < w1.heap.size := by simp at hsz1; omega
      obtain ⟨hc1, hk1⟩ := HC.out _ HG1.out
      have hne := hown0.out
      go_roundw
      case rel => exact ⟨k + 1, by omega, by go_num, ⟨_, HO1.out, testsAt_next HT.out hne hc1 (by omega) hg1 hk1⟩, (below_alloc HR.out _).grown HG1.out (by simp; omega) (fun j hj => by injection hj with hj; omega)⟩
      case measure => simp [intOf]; omega
    · have e : k = 4 := by omega
      subst e
      go_wp2
      go_ret
      exact ⟨_, D, rfl, HO.out, HT.out, Nat.le_refl _, HR.out⟩

section
variable {w : World} {ops : Array Oper} {rest : List Oper} {o : Oper} {a : Act} {Q : Exit → Act → World → Prop}
/-- 'trustTests()[t]' at a trust. -/
theorem wpList_test_yes (hg : o.guard = none) (m x : Operand) (hop : o.op = Op.lookup 71 m x true) (b : Nat) (D : DataW Value) (hm : a.eval m = .map (some b))
    (hown : w.ownsMap Try.prog 3 heldE b 4 D) (hT : TestsAt w b 4 D) (t : Int) (hx : a.eval x = .int .i64 t) (ht : 0 ≤ t ∧ t < 4)
    (hK : ∀ g, b < g → g < w.heap.size → w.cell? ⟨g, 0, none⟩ = some (.int .i64 t) → wpList Try.prog ops Q rest (a.put o.dst (.tuple #[.func (.func 72) #[] #[.pointer (some ⟨g, 0, none⟩)], .bool true])) w) :
    wpList Try.prog ops Q (o :: rest) a w := by
  refine wpList_lookup_own_ok w hg m x 71 hop 3 62 law_int Try.underlying71 heldE (zero_test w) (.held .nilFunc) [] rfl b 4 D hm hown _ (key t) hx (Maps.keyOf_int_mk Try.underlying3 (WalkArith.wf_i64 (by omega))) ?_
  intro v ps hv
  obtain ⟨g, hg, hbg, hc, hh, hat⟩ := hT.2.1 t ht.1 (by omega)
  rw [hat] at hv
  unfold heldE at hv
  injection hv with hv
  injection hv with hv
  injection hv with hv
  subst hv
  rw [hh]
  exact hK g hbg hg hc
/-- 'trustTests()[t]' at another number. -/
theorem wpList_test_no (hg : o.guard = none) (m x : Operand) (hop : o.op = Op.lookup 71 m x true) (b : Nat) (D : DataW Value) (hm : a.eval m = .map (some b))
    (hown : w.ownsMap Try.prog 3 heldE b 4 D) (hT : TestsAt w b 4 D) (t : Int) (hx : a.eval x = .int .i64 t) (hw : (Lit.int .i64 t).wf = true) (ht : t < 0 ∨ 4 ≤ t)
    (hK : ∀ v, wpList Try.prog ops Q rest (a.put o.dst (.tuple #[v, .bool false])) w) :
    wpList Try.prog ops Q (o :: rest) a w := by
  refine wpList_lookup_own_ok w hg m x 71 hop 3 62 law_int Try.underlying71 heldE (zero_test w) (.held .nilFunc) [] rfl b 4 D hm hown _ (key t) hx (Maps.keyOf_int_mk Try.underlying3 hw) ?_
  intro v ps hv
  rw [hT.2.2 t (by omega)]
  exact hK v
/-- 'trustTests()[t]' at a trust, without ok. -/
theorem wpList_test_plain (hg : o.guard = none) (m x : Operand) (hop : o.op = Op.lookup 71 m x false) (b : Nat) (D : DataW Value) (hm : a.eval m = .map (some b))
    (hown : w.ownsMap Try.prog 3 heldE b 4 D) (hT : TestsAt w b 4 D) (t : Int) (hx : a.eval x = .int .i64 t) (ht : 0 ≤ t ∧ t < 4)
    (hK : ∀ g, b < g → g < w.heap.size → w.cell? ⟨g, 0, none⟩ = some (.int .i64 t) → wpList Try.prog ops Q rest (a.put o.dst (.func (.func 72) #[] #[.pointer (some ⟨g, 0, none⟩)])) w) :
    wpList Try.prog ops Q (o :: rest) a w := by
  refine wpList_plain hg fun K' hK' => ?_
  obtain ⟨v, ps, hrun, hv⟩ := hown.lookup law_int Try.underlying71 (zero_test w) (zd := .held .nilFunc) (zp := []) rfl (Maps.keyOf_int_mk Try.underlying3 (WalkArith.wf_i64 (n := t) (by omega)))
  obtain ⟨g, hg, hbg, hc, hh, hat⟩ := hT.2.1 t ht.1 (by omega)
  have hat' := hat (.held .nilFunc)
  unfold key at hat'
  rw [hat'] at hv
  unfold heldE at hv
  injection hv with hv
  injection hv with hv
  injection hv with hv
  subst hv
  unfold Oper.wp
  simp [execOp, hop, hm, hx, hrun, Result.andThen]
  exact hK' _ _ (hK g hbg hg hc)
end

set_option maxRecDepth 20000 in
set_option maxHeartbeats 400000 in
theorem test_any (x y z t : Int) (g : Nat) (w : World) (hc : w.cell? ⟨g, 0, none⟩ = some (.int .i64 t)) (hg : g < w.heap.size) :
    Calls Try.prog 72 #[.agg #[.int .i64 x, .int .i64 y, .int .i64 z], .pointer (some ⟨g, 0, none⟩)] w (OnlyB (y = t) w) := by
  go_enter Try.func72, Try.ntmps72
  go_wp2
  all_goals
    go_ret
    exact ⟨_, rfl, by simp, below_alloc (Below.refl _ _) _⟩
end Go.Proofs.Ytngbpdijempkpaa
