/- Texts of mine in one: RWalkF RWalkG RWalkH RWalkI RWalkJ. -/
import Derived.Test.YtgjllminidlolaaGreatDoorMAH
import Derived.Deep.RegionLaw
import Derived.Deep.Light
import Derived.Test.YtgjllminidlolaaGreatDoorMAF
/- Contracts: the heap of towns: Push, Pop, up, down. -/
set_option linter.unusedVariables false
namespace Go.Proofs.YtgjllminidlolaaGreatDoor
open Go.RowKit

/-- append(v, s...) as a step of a region, with where the new slice lies. -/
theorem step_cat_at {P : Program} {α : Type} {k bytes ty base : Nat} {enc : α → List Value} {W : World} {ys : List α} {ops : Array Oper} {o : Oper} {a : Act} {K : Act → World → Prop} {Q : Exit → Act → World → Prop} {E : Prop} (hk : ∀ x, (enc x).length = k) (h1 : ∀ x, ∀ u ∈ enc x, u.oneCell' = true) (hk0 : 0 < k)
    (hgd : o.guard = none) (s y : Operand) (t : TypeId) (ho : o.op = .call { callee := .builtin .append, args := #[s, y], argTypes := #[t, t] })
    (ht : P.underlying t = some (.slice ty)) {z : Value} (hinfo : (P.info? ty).map (fun i => (i.zero, i.size, i.bytes)) = some (some z, k, bytes)) (hz : z.cells.size = k)
    (v : Value) (xs : List α) (hsv : a.eval s = v) (hown : OwnE k enc ty base W v xs) {A : Option Addr} {m c : Nat} (hy : a.eval y = .slice A m c) (hs : SlE k enc W A m ys)
    (hbytes : (xs.length + m) * bytes ≤ 140737488355328) (h63 : xs.length + m ≤ maxLen) (hbase : base ≤ W.heap.size)
    (h : ∀ v' w', OwnE k enc ty base w' v' (xs ++ ys) → W.grownBy w' v.ownBlock → (v'.ownBlock = v.ownBlock ∨ v'.ownBlock = some W.heap.size) → K (a.put o.dst v') w') :
    if Region.wanted o (yielded ops a.tmps) = true then Oper.wp P o a W K Q else E := by
  rw [if_pos (by simp [Region.wanted, hgd])]
  obtain ⟨v', w', hr, h2, h3, h5⟩ := run_cat_at (P := P) (tr := o.type) hk h1 hk0 ht hinfo hz hown hs hbytes h63 hbase (c := c)
  exact Lib.wp_append_run W s y t t ho _ _ hsv hy v' w' hr (h v' w' h2 h3 h5)

theorem grown_frozen' {w w' : World} {row : Option Nat} {g j : Nat} (h : w.grownBy w' row) (hg : g < w.heap.size) (hne : row ≠ some g) : w'.frozen? ⟨g, j, none⟩ = w.frozen? ⟨g, j, none⟩ := World.frozen?_of_block (w := w) (h.block g hg (fun e => hne e.symm))
/-- A heap of towns in memory; its slice avoids some blocks. -/
def HeapS (base hb : Nat) (av : Nat → Prop) (n : Nat) (f : Nat → P2) (W : World) : Prop :=
  ∃ g c, W.cell? ⟨hb, 0, none⟩ = some (.slice (some ⟨g, 0, none⟩) n c) ∧ W.frozen? ⟨hb, 0, none⟩ = false ∧ hb < W.heap.size ∧ base ≤ hb ∧
    OwnE 2 enc2 150 base W (.slice (some ⟨g, 0, none⟩) n c) (lstF n f) ∧ g ≠ hb ∧ ¬ av g
/-- Only the heap has turned. -/
def HKeep (hb g : Nat) (w w' : World) : Prop := w'.os = w.os ∧ w'.tape = w.tape ∧ w'.output = w.output ∧ w.heap.size ≤ w'.heap.size ∧ ∀ k, k < w.heap.size → k ≠ hb → k ≠ g → w'.heap[k]? = w.heap[k]?
theorem HKeep.cell {hb g : Nat} {w w' : World} (h : HKeep hb g w w') {b : Nat} (hb' : b < w.heap.size) (h1 : b ≠ hb) (h2 : b ≠ g) (o : Nat) : w'.cell? ⟨b, o, none⟩ = w.cell? ⟨b, o, none⟩ := by
  unfold World.cell?
  rw [h.2.2.2.2 b hb' h1 h2]
theorem hkeep_grown {hb g : Nat} {w w' : World} (h : w.grownBy w' (some g)) : HKeep hb g w w' := ⟨h.os, h.tape, h.output, h.size, fun k hk _ h2 => h.block k hk (fun e => h2 (Option.some.inj e))⟩
theorem hkeep_box {hb g : Nat} {w w' : World} (h : w.grownBy w' (some hb)) : HKeep hb g w w' := ⟨h.os, h.tape, h.output, h.size, fun k hk h1 _ => h.block k hk (fun e => h1 (Option.some.inj e))⟩
theorem hkeep_below {hb g : Nat} {w w' : World} (h : Below w.heap.size w w') : HKeep hb g w w' := ⟨h.os, h.tape, h.output, h.size, fun k hk _ _ => h.block k hk⟩
theorem HKeep.trans {hb g : Nat} {a b c : World} (h : HKeep hb g a b) (k : HKeep hb g b c) : HKeep hb g a c :=
  ⟨k.1.trans h.1, k.2.1.trans h.2.1, k.2.2.1.trans h.2.2.1, Nat.le_trans h.2.2.2.1 k.2.2.2.1, fun i hi h1 h2 => (k.2.2.2.2 i (Nat.lt_of_lt_of_le hi h.2.2.2.1) h1 h2).trans (h.2.2.2.2 i hi h1 h2)⟩

theorem push_form {base n : Nat} {f : Nat → P2} {W : World} {v : Value} (h : OwnE 2 enc2 150 base W v (lstF n f ++ [f n])) :
    ∃ g' c', v = .slice (some ⟨g', 0, none⟩) (n + 1) c' ∧ OwnE 2 enc2 150 base W (.slice (some ⟨g', 0, none⟩) (n + 1) c') (lstF (n + 1) f) := by
  rw [← lstF_snoc] at h
  obtain ⟨A, c, rfl, -, -⟩ := h.slc enc2_len (lstF_len (n + 1) f)
  obtain ⟨g', rfl, -, -, -, -⟩ := h.form (by rw [lstF_len]; omega)
  exact ⟨g', c, rfl, h⟩
theorem asTown (v : Value) (w : World) : (Instr.typeAssert (.iface 150 v) 20 150 false).run Tryz.prog w = .ok v w := by
  simp [Instr.typeAssert, run_underlying Tryz.underlying150, Result.andThen]
/-- How Push of the heap's slice ends. -/
def PushedS (base hb : Nat) (n : Nat) (f : Nat → P2) (w : World) (g : Nat) (e : Ending) (w' : World) : Prop :=
  e = .returned (.tuple #[]) ∧ ∃ g' c', w'.cell? ⟨hb, 0, none⟩ = some (.slice (some ⟨g', 0, none⟩) (n + 1) c') ∧ w'.frozen? ⟨hb, 0, none⟩ = false ∧
    OwnE 2 enc2 150 base w' (.slice (some ⟨g', 0, none⟩) (n + 1) c') (lstF (n + 1) f) ∧ (g' = g ∨ w.heap.size ≤ g') ∧ g' ≠ hb ∧ HKeep hb g w w'

theorem gset (W : World) (a : Addr) (v : Value) : W.grownBy (W.setCell a v) (some a.block) :=
  ⟨rfl, rfl, rfl, by rw [show (W.setCell a v).heap.size = W.heap.size by simp [World.setCell]]; exact Nat.le_refl _, fun k _ hk => Below.heap_setCell _ _ _ k (fun e => hk (by rw [e]))⟩
theorem push_end {base hb g n c2 g2 : Nat} {f : Nat → P2} {w w1 w2 : World} {v' : Value} (hlt : hb < w.heap.size) (hgw : g < w.heap.size) (hg : g ≠ hb) (hb1 : Below w.heap.size w w1) (hbase : base ≤ w1.heap.size)
    (ho : OwnE 2 enc2 150 base w2 (.slice (some ⟨g2, 0, none⟩) (n + 1) c2) (lstF (n + 1) f)) (hg2 : w1.grownBy w2 (some g)) (hl : some g2 = some g ∨ some g2 = some w1.heap.size)
    (hc2 : w2.cell? ⟨hb, 0, none⟩ = some v') (hz2 : w2.frozen? ⟨hb, 0, none⟩ = false) :
    ∃ g' c', (w2.setCell ⟨hb, 0, none⟩ (.slice (some ⟨g2, 0, none⟩) (n + 1) c2)).cell? ⟨hb, 0, none⟩ = some (.slice (some ⟨g', 0, none⟩) (n + 1) c') ∧ (w2.setCell ⟨hb, 0, none⟩ (.slice (some ⟨g2, 0, none⟩) (n + 1) c2)).frozen? ⟨hb, 0, none⟩ = false ∧
      OwnE 2 enc2 150 base (w2.setCell ⟨hb, 0, none⟩ (.slice (some ⟨g2, 0, none⟩) (n + 1) c2)) (.slice (some ⟨g', 0, none⟩) (n + 1) c') (lstF (n + 1) f) ∧ (g' = g ∨ w.heap.size ≤ g') ∧ g' ≠ hb ∧ HKeep hb g w (w2.setCell ⟨hb, 0, none⟩ (.slice (some ⟨g2, 0, none⟩) (n + 1) c2)) := by
  have hs := hb1.size
  have h2 : g2 = g ∨ w.heap.size ≤ g2 := by
    rcases hl with h | h
    · exact .inl (Option.some.inj h)
    · exact .inr (by have := Option.some.inj h; omega)
  have h3 : g2 ≠ hb := by
    rcases h2 with h | h
    · rw [h]; exact hg
    · omega
  have hgs := gset w2 ⟨hb, 0, none⟩ (.slice (some ⟨g2, 0, none⟩) (n + 1) c2)
  exact ⟨g2, c2, World.cell?_setCell_same _ _ _ hc2, by rw [World.frozen?_setCell]; exact hz2, ho.apart hgs (.inr (fun e => h3 (Option.some.inj e))), h2, h3,
    ((hkeep_below hb1).trans (hkeep_grown hg2)).trans (hkeep_box hgs)⟩

set_option maxRecDepth 20000 in
set_option maxHeartbeats 3200000 in
theorem thPush_any (base hb g n c : Nat) (f : Nat → P2) (p : P2) (w : World) (hc : w.cell? ⟨hb, 0, none⟩ = some (.slice (some ⟨g, 0, none⟩) n c)) (hz : w.frozen? ⟨hb, 0, none⟩ = false) (hlt : hb < w.heap.size) (hbase : base ≤ w.heap.size)
    (ho : OwnE 2 enc2 150 base w (.slice (some ⟨g, 0, none⟩) n c) (lstF n f)) (hg : g ≠ hb) (hn : n ≤ 1000000) (hp : f n = p) :
    Calls Tryz.prog 250 #[.pointer (some ⟨hb, 0, none⟩), .iface 150 (.agg #[.int .i64 p.t, .int .i64 p.d])] w (PushedS base hb n f w g) := by
  subst hp
  have HO := Lib.hid ho
  have hgw := (ho.lt g rfl).2
  have HS0 := Lib.hid (And.intro hc hz)
  have hnn : some g ≠ some hb := fun e => hg (Option.some.inj e)
  have HNN := Lib.hid hnn
  have hl := lstF_len n f
  have n1 : ((lstF n f).length + 1) * 16 ≤ 140737488355328 := by rw [hl]; omega
  have n2 : (lstF n f).length + 1 ≤ maxLen := by rw [hl]; unfold maxLen; omega
  have N := Lib.hid (And.intro n1 n2)
  have hta := asTown
  clear ho hc hz hnn hl n1 n2
  go_enter Tryz.func250, Tryz.ntmps250
  have hs : (w.alloc (.cells #[.int .i64 (f n).t, .int .i64 (f n).d] 150)).heap.size = w.heap.size + 1 := by show (w.heap.push _).size = _; rw [Array.size_push]
  have HO1 := Lib.hid (OwnE.drew (HO.out.alloc (.cells #[.int .i64 (f n).t, .int .i64 (f n).d] 150)))
  have S1 := Lib.hid (SlE.drew (slE_new (k := 2) (enc := enc2) w 150 enc2_len [f n] #[.int .i64 (f n).t, .int .i64 (f n).d] rfl (by simp [maxLen]) (n := 1) rfl (g := w.heap.size) rfl))
  have HB1 := Lib.hid (below_drew (below_alloc (Below.refl w.heap.size w) (.cells #[.int .i64 (f n).t, .int .i64 (f n).d] 150)))
  have hc1 : (w.alloc (.cells #[.int .i64 (f n).t, .int .i64 (f n).d] 150)).drew.cell? ⟨hb, 0, none⟩ = some (.slice (some ⟨g, 0, none⟩) n c) := by rw [HB1.out.cell (by exact hlt)]; exact HS0.out.1
  have hz1 : (w.alloc (.cells #[.int .i64 (f n).t, .int .i64 (f n).d] 150)).drew.frozen? ⟨hb, 0, none⟩ = false := by rw [HB1.out.frozen (by exact hlt)]; exact HS0.out.2
  have hlt1 : hb < (w.alloc (.cells #[.int .i64 (f n).t, .int .i64 (f n).d] 150)).drew.heap.size := Nat.lt_of_lt_of_le hlt HB1.out.size
  have HC1 := Lib.hid (And.intro hc1 hz1)
  have hb1 : base ≤ (w.alloc (.cells #[.int .i64 (f n).t, .int .i64 (f n).d] 150)).drew.heap.size := Nat.le_trans hbase HB1.out.size
  have HBS := Lib.hid hb1
  have HLT := Lib.hid hlt1
  clear hc1 hz1 hlt1 hb1
  go_wp2_with fail
  obtain ⟨hc, hz⟩ := HS0.out
  go_region_law (refine step_cat_at (bytes := 16) (base := base) enc2_len enc2_one (Nat.succ_pos 1) rfl (.tmp 7) (.tmp 10) _ rfl Tryz.underlying152 info_town rfl _ (lstF n f) rfl HO1.out rfl S1.out N.out.1 N.out.2 HBS.out ?_; intro v2 w2 hown2 hg2 hl2; obtain ⟨g2, c2, rfl, hown3⟩ := push_form hown2; have O2 := Lib.hid hown3; have G2 := Lib.hid hg2; have L2 := Lib.hid hl2; have hc2 := ((grown_cell hg2 HLT.out HNN.out).trans HC1.out.1); have hz2 := ((grown_frozen' hg2 HLT.out HNN.out).trans HC1.out.2); clear hown2 hown3 hg2 hl2)
  all_goals
    go_end0
    exact ⟨rfl, push_end hlt hgw hg HB1.out HBS.out O2.out G2.out L2.out hc2 hz2⟩
end Go.Proofs.YtgjllminidlolaaGreatDoor
/- Contracts: the heap of towns: Pop, up, down. -/
set_option linter.unusedVariables false
namespace Go.Proofs.YtgjllminidlolaaGreatDoor
open Go.RowKit

/-- How Pop of the heap's slice ends. -/
def PoppedS (base hb g n c : Nat) (f : Nat → P2) (w : World) (e : Ending) (w' : World) : Prop :=
  e = .returned (.iface 150 (.agg #[.int .i64 (f n).t, .int .i64 (f n).d])) ∧ w'.cell? ⟨hb, 0, none⟩ = some (.slice (some ⟨g, 0, none⟩) n c) ∧ w'.frozen? ⟨hb, 0, none⟩ = false ∧
    OwnE 2 enc2 150 base w' (.slice (some ⟨g, 0, none⟩) n c) (lstF n f) ∧ HKeep hb g w w'
theorem pop_end {base hb g n c : Nat} {f : Nat → P2} {w w1 : World} {v' : Value} (hg : g ≠ hb) (hb1 : Below w.heap.size w w1)
    (ho : OwnE 2 enc2 150 base w1 (.slice (some ⟨g, 0, none⟩) (n + 1) c) (lstF (n + 1) f)) (hc2 : w1.cell? ⟨hb, 0, none⟩ = some v') (hz2 : w1.frozen? ⟨hb, 0, none⟩ = false) :
    (w1.setCell ⟨hb, 0, none⟩ (.slice (some ⟨g, 0, none⟩) n c)).cell? ⟨hb, 0, none⟩ = some (.slice (some ⟨g, 0, none⟩) n c) ∧ (w1.setCell ⟨hb, 0, none⟩ (.slice (some ⟨g, 0, none⟩) n c)).frozen? ⟨hb, 0, none⟩ = false ∧
    OwnE 2 enc2 150 base (w1.setCell ⟨hb, 0, none⟩ (.slice (some ⟨g, 0, none⟩) n c)) (.slice (some ⟨g, 0, none⟩) n c) (lstF n f) ∧ HKeep hb g w (w1.setCell ⟨hb, 0, none⟩ (.slice (some ⟨g, 0, none⟩) n c)) := by
  have hgs := gset w1 ⟨hb, 0, none⟩ (.slice (some ⟨g, 0, none⟩) n c)
  have h1 := ho.shrink enc2_len (lstF_len (n + 1) f) (Nat.le_succ n)
  rw [lstF_take] at h1
  exact ⟨World.cell?_setCell_same _ _ _ hc2, by rw [World.frozen?_setCell]; exact hz2, h1.apart hgs (.inr (fun e => hg (Option.some.inj e))), (hkeep_below hb1).trans (hkeep_box hgs)⟩

theorem hkeep_drew {hb g : Nat} {a b : World} (h : HKeep hb g a b) : HKeep hb g a b.drew := h
theorem pop_mid {base hb g n c : Nat} {f : Nat → P2} {w : World} {v : Value} {T : TypeId} (ho : OwnE 2 enc2 150 base w (.slice (some ⟨g, 0, none⟩) (n + 1) c) (lstF (n + 1) f)) (hc : w.cell? ⟨hb, 0, none⟩ = some v) (hz : w.frozen? ⟨hb, 0, none⟩ = false) (hlt : hb < w.heap.size) (p q : Int) :
    OwnE 2 enc2 150 base (w.alloc (.cells #[.int .i64 p, .int .i64 q] T)).drew (.slice (some ⟨g, 0, none⟩) (n + 1) c) (lstF (n + 1) f) ∧ Below w.heap.size w (w.alloc (.cells #[.int .i64 p, .int .i64 q] T)).drew ∧
    (w.alloc (.cells #[.int .i64 p, .int .i64 q] T)).drew.cell? ⟨hb, 0, none⟩ = some v ∧ (w.alloc (.cells #[.int .i64 p, .int .i64 q] T)).drew.frozen? ⟨hb, 0, none⟩ = false ∧
    (w.alloc (.cells #[.int .i64 p, .int .i64 q] T)).drew.cell? ⟨w.heap.size, 0, none⟩ = some (.int .i64 p) ∧ (w.alloc (.cells #[.int .i64 p, .int .i64 q] T)).drew.cell? ⟨w.heap.size, 1, none⟩ = some (.int .i64 q) := by
  have hB := below_drew (below_alloc (Below.refl w.heap.size w) (.cells #[.int .i64 p, .int .i64 q] T))
  have hr : ∀ j, (w.alloc (.cells #[.int .i64 p, .int .i64 q] T)).cell? ⟨w.heap.size, j, none⟩ = (#[.int .i64 p, .int .i64 q] : Array Value)[j]? := fun j => cell_of_row _ _ j _ T (0, 0) (heap_alloc_new w _)
  exact ⟨(ho.alloc _).drew, hB, by rw [hB.cell (by exact hlt)]; exact hc, by rw [hB.frozen (by exact hlt)]; exact hz, hr 0, hr 1⟩

set_option maxRecDepth 20000 in
set_option maxHeartbeats 3200000 in
theorem thPop_any (base hb g n c : Nat) (f : Nat → P2) (w : World) (hc : w.cell? ⟨hb, 0, none⟩ = some (.slice (some ⟨g, 0, none⟩) (n + 1) c)) (hz : w.frozen? ⟨hb, 0, none⟩ = false) (hlt : hb < w.heap.size)
    (ho : OwnE 2 enc2 150 base w (.slice (some ⟨g, 0, none⟩) (n + 1) c) (lstF (n + 1) f)) (hg : g ≠ hb) (hn : n ≤ 1000000) :
    Calls Tryz.prog 249 #[.pointer (some ⟨hb, 0, none⟩)] w (PoppedS base hb g n c f w) := by
  obtain ⟨ci, ci'⟩ := OwnE.cell2 ho (lstF_at f (Nat.lt_succ_self n))
  have hcap : n + 1 ≤ c := by
    obtain ⟨_, _, hv, -, hle⟩ := ho.slc enc2_len (lstF_len (n + 1) f)
    injection hv with _ _ hv
    omega
  have HO := Lib.hid ho
  have hgw := (ho.lt g rfl).2
  have e1 : ((n + 1 : Nat) : Int) - 1 = (n : Int) := by omega
  have hnc : (n : Int) ≤ (c : Int) := by omega
  clear ho
  obtain ⟨p, q, hpq⟩ : ∃ p q, (f n).t = p ∧ (f n).d = q := ⟨_, _, rfl, rfl⟩
  have HPQ := Lib.hid hpq
  rw [hpq.1] at ci
  rw [hpq.2] at ci'
  clear hpq
  go_enter Tryz.func249, Tryz.ntmps249
  go_wp2_with fail
  go_region
  go_wp2_with fail
  have hAll := pop_mid (T := 150) HO.out hc hz hlt p q
  clear hc hz ci ci' hgw
  revert hAll
  generalize (w.alloc (.cells #[.int .i64 p, .int .i64 q] 150)).drew = W1
  rintro ⟨hO1, hB1, hc, hz, c0, c1⟩
  have HE := Lib.hid (pop_end (hb := hb) (w := w) hg hB1 hO1 hc hz)
  have hw1 : w.heap.size ≠ hb := by omega
  have c0' : (W1.setCell ⟨hb, 0, none⟩ (.slice (some ⟨g, 0, none⟩) n c)).cell? ⟨w.heap.size, 0, none⟩ = some (.int .i64 p) := by rw [World.cell?_setCell_other _ _ _ _ (by simp <;> omega)]; exact c0
  have c1' : (W1.setCell ⟨hb, 0, none⟩ (.slice (some ⟨g, 0, none⟩) n c)).cell? ⟨w.heap.size, 1, none⟩ = some (.int .i64 q) := by rw [World.cell?_setCell_other _ _ _ _ (by simp <;> omega)]; exact c1
  clear hO1 hB1
  go_region
  go_wp2_with fail
  go_ret
  exact ⟨by rw [HPQ.out.1, HPQ.out.2]; rfl, HE.out.1, HE.out.2.1, HE.out.2.2.1, hkeep_drew HE.out.2.2.2⟩
end Go.Proofs.YtgjllminidlolaaGreatDoor
/- Contracts: container/heap: up, down, Push, Pop. -/
set_option linter.unusedVariables false
namespace Go.Proofs.YtgjllminidlolaaGreatDoor
open Go.RowKit

theorem wrapchk (P : Program) (t : TypeId) (a : Addr) (s s' : String) (W : World) : (Builtin.ssaWrapNilChk_ #[t] t #[.pointer (some a), strVal s', strVal s]).run P W = .ok (.pointer (some a)) W := rfl
theorem loadTH (a : Addr) (W : World) (v : Value) (h : W.cell? a = some v) : (loadVar 152 a).run Tryz.prog W = .ok v W := by
  have e : (isAgg 152).run Tryz.prog W = .ok false W := by kernel_rfl
  simp [loadVar, e, Result.andThen]
  simp [go_sem, h]
/-- Which function a method of the heap is. -/
theorem mLess {W : World} {hb : Nat} {v : Value} (h : W.cell? ⟨hb, 0, none⟩ = some v) : (method 391 148 (.pointer (some ⟨hb, 0, none⟩)) "Less").run Tryz.prog W = .ok (248, v) W := by
  rw [Go.method.eq_2]
  simp [Tryz.t148, Go.follow, Go.receiverAt]
  simp [Go.Place.get, wrapchk, asAddr, loadTH _ _ _ h, Result.andThen]
theorem mSwap {W : World} {hb : Nat} {v : Value} (h : W.cell? ⟨hb, 0, none⟩ = some v) : (method 391 148 (.pointer (some ⟨hb, 0, none⟩)) "Swap").run Tryz.prog W = .ok (251, v) W := by
  rw [Go.method.eq_2]
  simp [Tryz.t148, Go.follow, Go.receiverAt]
  simp [Go.Place.get, wrapchk, asAddr, loadTH _ _ _ h, Result.andThen]
theorem mLen {W : World} {hb : Nat} {v : Value} (h : W.cell? ⟨hb, 0, none⟩ = some v) : (method 391 148 (.pointer (some ⟨hb, 0, none⟩)) "Len").run Tryz.prog W = .ok (89, v) W := by
  rw [Go.method.eq_2]
  simp [Tryz.t148, Go.follow, Go.receiverAt]
  simp [Go.Place.get, wrapchk, asAddr, loadTH _ _ _ h, Result.andThen]
/-- The heap's slice in its cell. -/
def HdrS (hb g n c : Nat) (w : World) : Prop := w.cell? ⟨hb, 0, none⟩ = some (.slice (some ⟨g, 0, none⟩) n c) ∧ w.frozen? ⟨hb, 0, none⟩ = false ∧ hb < w.heap.size ∧ g ≠ hb
theorem HdrS.grown {hb g n c : Nat} {w w' : World} (h : HdrS hb g n c w) (hg : w.grownBy w' (some g)) : HdrS hb g n c w' := by
  have hn : some g ≠ some hb := fun e => h.2.2.2 (Option.some.inj e)
  exact ⟨by rw [grown_cell hg h.2.2.1 hn]; exact h.1, by rw [grown_frozen' hg h.2.2.1 hn]; exact h.2.1, Nat.lt_of_lt_of_le h.2.2.1 hg.size, h.2.2.2⟩
theorem grown_andB {a b c : World} {r : Option Nat} (h : a.grownBy b r) (k : Below b.heap.size b c) : a.grownBy c r := grown_trans h ⟨k.os, k.tape, k.output, k.size, fun j hj _ => k.block j hj⟩
/-- The heap has been put in order. -/
def Ordered (base g n c : Nat) (f : Nat → P2) (w : World) (w' : World) : Prop :=
  ∃ f', HeapF n f' ∧ (∀ y, bagF n f' y ↔ bagF n f y) ∧ OwnE 2 enc2 150 base w' (.slice (some ⟨g, 0, none⟩) n c) (lstF n f') ∧ w.grownBy w' (some g)

set_option maxRecDepth 20000 in
set_option maxHeartbeats 3200000 in
theorem up_any (base hb g n c j0 : Nat) (f : Nat → P2) (w : World) (hh : HdrS hb g n c w) (ho : OwnE 2 enc2 150 base w (.slice (some ⟨g, 0, none⟩) n c) (lstF n f)) (hn : n ≤ 1000000) (hj0 : j0 < n) (hup : UpI n f j0) :
    Calls Tryz.prog 118 #[.iface 148 (.pointer (some ⟨hb, 0, none⟩)), .int .i64 j0] w (fun e w' => e = .returned (.tuple #[]) ∧ Ordered base g n c f w w') := by
  have HH := Lib.hid hh
  have HO := Lib.hid ho
  have HU := Lib.hid hup
  clear hh ho hup
  go_enter Tryz.func118, Tryz.ntmps118
  go_wp2_with fail
  go_loopw [1, 4] (fun j _ wr => ∃ (k : Nat) (f' : Nat → P2), k < n ∧ j = .int .i64 k ∧ UpI n f' k ∧ (∀ y, bagF n f' y ↔ bagF n f y) ∧ OwnE 2 enc2 150 base wr (.slice (some ⟨g, 0, none⟩) n c) (lstF n f') ∧ w.grownBy wr (some g)) (fun j _ _ => (intOf j).toNat)
  case atStart => exact ⟨j0, f, hj0, rfl, HU.out, fun y => Iff.rfl, HO.out, World.grownBy.refl _ _⟩
  case round =>
    obtain ⟨k, f', hk, rfl, hup, hbag, hown, hgr⟩ := hrel
    have HU := Lib.hid hup
    have HBG := Lib.hid hbag
    have HO := Lib.hid hown
    have HG := Lib.hid hgr
    obtain ⟨q0, q1, q2, q3⟩ := HH.out.grown hgr
    clear hup hbag hown hgr
    by_cases hk0 : k = 0
    · subst hk0
      go_wp2_with fail
      go_end0
      exact ⟨rfl, f', up_top HU.out, HBG.out, HO.out, HG.out⟩
    · obtain ⟨i, hi⟩ : ∃ i : Nat, (k - 1) / 2 = i := ⟨_, rfl⟩
      have d1 : ((k : Int) - 1) / 2 = (i : Int) := by omega
      have d2 : ((k : Int) - 1).tdiv 2 = (i : Int) := by rw [Int.tdiv_eq_ediv_of_nonneg (by omega)]; exact d1
      have d3 : ((i : Int) == (k : Int)) = false := by simp; omega
      have d4 : 0 ≤ (k : Int) - 1 := by omega
      have hin : i < n := by omega
      have HI := Lib.hid hi
      clear hi
      have mL := mLess q0
      by_cases hl : (f' k).d < (f' i).d
      · have HL := Lib.hid hl
        clear hl
        go_wp2_with fail
        refine (thLess_any base g n c k i f' wr HO.out hk hin).mono ?_
        intro e w2 hp
        obtain ⟨rfl, hb2⟩ := hp.yes HL.out
        have HO2 := Lib.hid (HO.out.below hb2 (Nat.le_refl _))
        have HG2 := Lib.hid (grown_andB HG.out hb2)
        obtain ⟨r0, r1, r2, r3⟩ := HH.out.grown HG2.out
        have mS := mSwap r0
        have HIK := Lib.hid (up_step HU.out (by omega) hk (by rw [HI.out]; exact HL.out))
        rw [HI.out] at HIK
        clear hp hb2 mL q0 q1
        go_wp2_with fail
        refine (thSwap_any base g n c i k f' w2 HO2.out hin hk).mono ?_
        rintro e w3 ⟨rfl, hown3, hg3⟩
        have HO3 := Lib.hid hown3
        have HG3 := Lib.hid (grown_trans HG2.out hg3)
        clear hown3 hg3 mS r0 r1
        go_wp2_with fail
        go_roundw
        case rel => exact ⟨i, _, hin, rfl, HIK.out, fun y => (bag_swap hin hk y).trans (HBG.out y), HO3.out, HG3.out⟩
        case measure => simp [intOf]; omega
      · have HL := Lib.hid hl
        clear hl
        go_wp2_with fail
        refine (thLess_any base g n c k i f' wr HO.out hk hin).mono ?_
        intro e w2 hp
        obtain ⟨rfl, hb2⟩ := hp.no (by have := HL.out; omega)
        have HO2 := Lib.hid (HO.out.below hb2 (Nat.le_refl _))
        have HG2 := Lib.hid (grown_andB HG.out hb2)
        clear hp hb2 mL q0 q1
        go_wp2_with fail
        go_end0
        exact ⟨rfl, f', up_stop HU.out (by rw [HI.out]; have := HL.out; omega), HBG.out, HO2.out, HG2.out⟩
end Go.Proofs.YtgjllminidlolaaGreatDoor
/- Contracts: container/heap.down. -/
set_option linter.unusedVariables false
namespace Go.Proofs.YtgjllminidlolaaGreatDoor
open Go.RowKit

/-- The first n of n + 1 have been put in order. -/
def OrderedD (base g n c : Nat) (f : Nat → P2) (w : World) (w' : World) : Prop :=
  ∃ f', HeapF n f' ∧ (∀ y, bagF n f' y ↔ bagF n f y) ∧ f' n = f n ∧ OwnE 2 enc2 150 base w' (.slice (some ⟨g, 0, none⟩) (n + 1) c) (lstF (n + 1) f') ∧ w.grownBy w' (some g)

set_option maxRecDepth 20000 in
set_option maxHeartbeats 6400000 in
theorem down_any (base hb g n c : Nat) (f : Nat → P2) (w : World) (hh : HdrS hb g (n + 1) c w) (ho : OwnE 2 enc2 150 base w (.slice (some ⟨g, 0, none⟩) (n + 1) c) (lstF (n + 1) f)) (hn : n ≤ 1000000) (hdn : DnI n f 0) :
    Calls Tryz.prog 117 #[.iface 148 (.pointer (some ⟨hb, 0, none⟩)), .int .i64 0, .int .i64 n] w (fun e w' => (∃ b, e = .returned (.bool b)) ∧ OrderedD base g n c f w w') := by
  have HH := Lib.hid hh
  have HO := Lib.hid ho
  have HU := Lib.hid hdn
  clear hh ho hdn
  go_enter Tryz.func117, Tryz.ntmps117
  go_wp2_with fail
  go_loopw [7, 8, 9, 10] (fun i _ _ _ wr => ∃ (k : Nat) (f' : Nat → P2), k ≤ n ∧ i = .int .i64 k ∧ DnI n f' k ∧ (∀ y, bagF n f' y ↔ bagF n f y) ∧ f' n = f n ∧ OwnE 2 enc2 150 base wr (.slice (some ⟨g, 0, none⟩) (n + 1) c) (lstF (n + 1) f') ∧ w.grownBy wr (some g)) (fun i _ _ _ _ => n - (intOf i).toNat)
  case atStart => exact ⟨0, f, by omega, rfl, HU.out, fun y => Iff.rfl, rfl, HO.out, World.grownBy.refl _ _⟩
  case round =>
    obtain ⟨k, f', hk, rfl, hup, hbag, hlast, hown, hgr⟩ := hrel
    have HU := Lib.hid hup
    have HBG := Lib.hid hbag
    have HLA := Lib.hid hlast
    have HO := Lib.hid hown
    have HG := Lib.hid hgr
    obtain ⟨q0, q1, q2, q3⟩ := HH.out.grown hgr
    clear hup hbag hlast hown hgr
    by_cases hn1 : n ≤ 2 * k + 1
    · have hq : (n : Int) ≤ 2 * (k : Int) + 1 := by omega
      go_wp2_with fail
      go_ret
      exact ⟨⟨_, rfl⟩, f', dn_leaf HU.out hn1, HBG.out, HLA.out, HO.out, HG.out⟩
    obtain ⟨a, ha1, ha2, ha3⟩ : ∃ a : Nat, a ≤ 2 * k + 1 ∧ 2 * k + 1 ≤ a ∧ (2 * (k : Int) + 1) = (a : Int) := ⟨2 * k + 1, by omega, by omega, by omega⟩
    obtain ⟨b, hb1, hb2, hb3⟩ : ∃ b : Nat, b ≤ a + 1 ∧ a + 1 ≤ b ∧ ((a : Int) + 1) = (b : Int) := ⟨a + 1, by omega, by omega, by omega⟩
    have i1 : ¬ (n : Int) ≤ (a : Int) := by omega
    have i2 : ¬ (a : Int) < 0 := by omega
    clear hn1
    have mL := mLess q0
    by_cases hj2 : b < n
    · have i3 : (b : Int) < (n : Int) := by omega
      by_cases hl1 : (f' b).d < (f' a).d
      · have HL1 := Lib.hid hl1
        clear hl1
        go_wp2_with fail
        refine (thLess_any base g (n + 1) c b a f' wr HO.out (by omega) (by omega)).mono ?_
        intro e w4 hp
        obtain ⟨rfl, hb4⟩ := hp.yes (by have := HL1.out; omega)
        have HO4 := Lib.hid (HO.out.below hb4 (Nat.le_refl _))
        have HG4 := Lib.hid (grown_andB HG.out hb4)
        clear hp hb4 mL
        obtain ⟨p0, p1, p2, p3⟩ := HH.out.grown HG4.out
        have mL := mLess p0
        have HMN := Lib.hid (show ∀ t, 0 < t → t < n → (t - 1) / 2 = k → (f' (b)).d ≤ (f' t).d from by
          intro t h1 h2 h3
          rcases (show t = a ∨ t = b by omega) with rfl | rfl
          · have := HL1.out; omega
          · exact Int.le_refl _)
        by_cases hl2 : (f' (b)).d < (f' k).d
        · have HL2 := Lib.hid hl2
          clear hl2
          go_wp2_with fail
          refine (thLess_any base g (n + 1) c (b) k f' w4 HO4.out (by omega) (by omega)).mono ?_
          intro e w5 hp
          obtain ⟨rfl, hb5⟩ := hp.yes (by have := HL2.out; omega)
          have HO5 := Lib.hid (HO4.out.below hb5 (Nat.le_refl _))
          have HG5 := Lib.hid (grown_andB HG4.out hb5)
          obtain ⟨r0, r1, r2, r3⟩ := HH.out.grown HG5.out
          have mS := mSwap r0
          have HST := Lib.hid (dn_step (j := b) HU.out (by omega) (by omega) (by omega) HMN.out (by have := HL2.out; omega))
          clear hp hb5 mL
          go_wp2_with fail
          refine (thSwap_any base g (n + 1) c k (b) f' w5 HO5.out (by omega) (by omega)).mono ?_
          rintro e w6 ⟨rfl, hown6, hg6⟩
          have HO6 := Lib.hid hown6
          have HG6 := Lib.hid (grown_trans HG5.out hg6)
          clear hown6 hg6 mS r0 r1
          go_wp2_with fail
          go_roundw
          case rel => exact ⟨b, _, by omega, by go_num, HST.out, fun y => (bag_swap (by omega) (by omega) y).trans (HBG.out y), by rw [swF_o _ (by omega) (by omega)]; exact HLA.out, HO6.out, HG6.out⟩
          case measure => simp [intOf]; omega
        · have HL2 := Lib.hid hl2
          clear hl2
          go_wp2_with fail
          refine (thLess_any base g (n + 1) c (b) k f' w4 HO4.out (by omega) (by omega)).mono ?_
          intro e w5 hp
          obtain ⟨rfl, hb5⟩ := hp.no (by have := HL2.out; omega)
          have HO5 := Lib.hid (HO4.out.below hb5 (Nat.le_refl _))
          have HG5 := Lib.hid (grown_andB HG4.out hb5)
          clear hp hb5 mL
          go_wp2_with fail
          go_ret
          exact ⟨⟨_, rfl⟩, f', dn_stop (j := b) HU.out HMN.out (by have := HL2.out; omega), HBG.out, HLA.out, HO5.out, HG5.out⟩
      · have HL1 := Lib.hid hl1
        clear hl1
        go_wp2_with fail
        refine (thLess_any base g (n + 1) c b a f' wr HO.out (by omega) (by omega)).mono ?_
        intro e w4 hp
        obtain ⟨rfl, hb4⟩ := hp.no (by have := HL1.out; omega)
        have HO4 := Lib.hid (HO.out.below hb4 (Nat.le_refl _))
        have HG4 := Lib.hid (grown_andB HG.out hb4)
        clear hp hb4 mL
        obtain ⟨p0, p1, p2, p3⟩ := HH.out.grown HG4.out
        have mL := mLess p0
        have HMN := Lib.hid (show ∀ t, 0 < t → t < n → (t - 1) / 2 = k → (f' (a)).d ≤ (f' t).d from by
          intro t h1 h2 h3
          rcases (show t = a ∨ t = b by omega) with rfl | rfl
          · exact Int.le_refl _
          · have := HL1.out; omega)
        by_cases hl2 : (f' (a)).d < (f' k).d
        · have HL2 := Lib.hid hl2
          clear hl2
          go_wp2_with fail
          refine (thLess_any base g (n + 1) c (a) k f' w4 HO4.out (by omega) (by omega)).mono ?_
          intro e w5 hp
          obtain ⟨rfl, hb5⟩ := hp.yes (by have := HL2.out; omega)
          have HO5 := Lib.hid (HO4.out.below hb5 (Nat.le_refl _))
          have HG5 := Lib.hid (grown_andB HG4.out hb5)
          obtain ⟨r0, r1, r2, r3⟩ := HH.out.grown HG5.out
          have mS := mSwap r0
          have HST := Lib.hid (dn_step (j := a) HU.out (by omega) (by omega) (by omega) HMN.out (by have := HL2.out; omega))
          clear hp hb5 mL
          go_wp2_with fail
          refine (thSwap_any base g (n + 1) c k (a) f' w5 HO5.out (by omega) (by omega)).mono ?_
          rintro e w6 ⟨rfl, hown6, hg6⟩
          have HO6 := Lib.hid hown6
          have HG6 := Lib.hid (grown_trans HG5.out hg6)
          clear hown6 hg6 mS r0 r1
          go_wp2_with fail
          go_roundw
          case rel => exact ⟨a, _, by omega, by go_num, HST.out, fun y => (bag_swap (by omega) (by omega) y).trans (HBG.out y), by rw [swF_o _ (by omega) (by omega)]; exact HLA.out, HO6.out, HG6.out⟩
          case measure => simp [intOf]; omega
        · have HL2 := Lib.hid hl2
          clear hl2
          go_wp2_with fail
          refine (thLess_any base g (n + 1) c (a) k f' w4 HO4.out (by omega) (by omega)).mono ?_
          intro e w5 hp
          obtain ⟨rfl, hb5⟩ := hp.no (by have := HL2.out; omega)
          have HO5 := Lib.hid (HO4.out.below hb5 (Nat.le_refl _))
          have HG5 := Lib.hid (grown_andB HG4.out hb5)
          clear hp hb5 mL
          go_wp2_with fail
          go_ret
          exact ⟨⟨_, rfl⟩, f', dn_stop (j := a) HU.out HMN.out (by have := HL2.out; omega), HBG.out, HLA.out, HO5.out, HG5.out⟩
    · have i3 : ¬ (b : Int) < (n : Int) := by omega
      have HMN := Lib.hid (show ∀ t, 0 < t → t < n → (t - 1) / 2 = k → (f' (a)).d ≤ (f' t).d from by
        intro t h1 h2 h3
        rcases (show t = a ∨ t = b by omega) with rfl | rfl
        · exact Int.le_refl _
        · omega)
      by_cases hl2 : (f' (a)).d < (f' k).d
      · have HL2 := Lib.hid hl2
        clear hl2
        go_wp2_with fail
        refine (thLess_any base g (n + 1) c (a) k f' wr HO.out (by omega) (by omega)).mono ?_
        intro e w5 hp
        obtain ⟨rfl, hb5⟩ := hp.yes (by have := HL2.out; omega)
        have HO5 := Lib.hid (HO.out.below hb5 (Nat.le_refl _))
        have HG5 := Lib.hid (grown_andB HG.out hb5)
        obtain ⟨r0, r1, r2, r3⟩ := HH.out.grown HG5.out
        have mS := mSwap r0
        have HST := Lib.hid (dn_step (j := a) HU.out (by omega) (by omega) (by omega) HMN.out (by have := HL2.out; omega))
        clear hp hb5 mL
        go_wp2_with fail
        refine (thSwap_any base g (n + 1) c k (a) f' w5 HO5.out (by omega) (by omega)).mono ?_
        rintro e w6 ⟨rfl, hown6, hg6⟩
        have HO6 := Lib.hid hown6
        have HG6 := Lib.hid (grown_trans HG5.out hg6)
        clear hown6 hg6 mS r0 r1
        go_wp2_with fail
        go_roundw
        case rel => exact ⟨a, _, by omega, by go_num, HST.out, fun y => (bag_swap (by omega) (by omega) y).trans (HBG.out y), by rw [swF_o _ (by omega) (by omega)]; exact HLA.out, HO6.out, HG6.out⟩
        case measure => simp [intOf]; omega
      · have HL2 := Lib.hid hl2
        clear hl2
        go_wp2_with fail
        refine (thLess_any base g (n + 1) c (a) k f' wr HO.out (by omega) (by omega)).mono ?_
        intro e w5 hp
        obtain ⟨rfl, hb5⟩ := hp.no (by have := HL2.out; omega)
        have HO5 := Lib.hid (HO.out.below hb5 (Nat.le_refl _))
        have HG5 := Lib.hid (grown_andB HG.out hb5)
        clear hp hb5 mL
        go_wp2_with fail
        go_ret
        exact ⟨⟨_, rfl⟩, f', dn_stop (j := a) HU.out HMN.out (by have := HL2.out; omega), HBG.out, HLA.out, HO5.out, HG5.out⟩
end Go.Proofs.YtgjllminidlolaaGreatDoor
/- Contracts: container/heap.Push and Pop on the heap of towns. -/
set_option linter.unusedVariables false
namespace Go.Proofs.YtgjllminidlolaaGreatDoor
open Go.RowKit

theorem lst_bag {n : Nat} {f : Nat → P2} {y : P2} : y ∈ lstF n f ↔ bagF n f y := by
  unfold lstF bagF
  constructor
  · intro h
    obtain ⟨k, hk, rfl⟩ := List.mem_map.1 h
    exact ⟨k, List.mem_range.1 hk, rfl⟩
  · rintro ⟨k, hk, rfl⟩
    exact List.mem_map.2 ⟨k, List.mem_range.2 hk, rfl⟩
/-- What a heap may turn. -/
def Own1 (base hb : Nat) (av : Nat → Prop) (i : Nat) : Prop := i = hb ∨ (base ≤ i ∧ ¬ av i)
theorem keeps_h {base hb g : Nat} {av : Nat → Prop} {w w' : World} (h : HKeep hb g w w') (hg : base ≤ g ∧ ¬ av g) : Keeps (Own1 base hb av) w w' :=
  ⟨h.1, h.2.1, h.2.2.1, h.2.2.2.1, fun k hk hs => h.2.2.2.2 k hk (fun e => hs (.inl e)) (fun e => hs (.inr (e ▸ hg)))⟩
theorem keeps_g {base hb g : Nat} {av : Nat → Prop} {w w' : World} (h : w.grownBy w' (some g)) (hg : base ≤ g ∧ ¬ av g) : Keeps (Own1 base hb av) w w' :=
  ⟨h.os, h.tape, h.output, h.size, fun k hk hs => h.block k hk (fun e => hs (.inr (by rw [Option.some.inj e]; exact hg)))⟩
/-- How Push ends. -/
def PushedH (base hb : Nat) (av : Nat → Prop) (n : Nat) (f : Nat → P2) (p : P2) (w : World) (e : Ending) (w' : World) : Prop :=
  e = .returned (.tuple #[]) ∧ ∃ f', HeapF (n + 1) f' ∧ (∀ y, y ∈ lstF (n + 1) f' ↔ y = p ∨ y ∈ lstF n f) ∧ HeapS base hb av (n + 1) f' w' ∧ Keeps (Own1 base hb av) w w'
def withP (n : Nat) (f : Nat → P2) (p : P2) (k : Nat) : P2 := if k < n then f k else p
theorem withP_lt {n k : Nat} (f : Nat → P2) (p : P2) (h : k < n) : withP n f p k = f k := by unfold withP; rw [if_pos h]
theorem withP_n (n : Nat) (f : Nat → P2) (p : P2) : withP n f p n = p := by unfold withP; rw [if_neg (by omega)]
theorem withP_bag {n : Nat} {f : Nat → P2} {p y : P2} : bagF (n + 1) (withP n f p) y ↔ y = p ∨ bagF n f y := by
  constructor
  · rintro ⟨k, hk, rfl⟩
    by_cases e : k < n
    · rw [withP_lt f p e]; exact .inr ⟨k, e, rfl⟩
    · obtain rfl : k = n := by omega
      exact .inl (withP_n _ _ _)
  · rintro (rfl | ⟨k, hk, rfl⟩)
    · exact ⟨n, by omega, withP_n _ _ _⟩
    · exact ⟨k, by omega, withP_lt f p hk⟩

set_option maxRecDepth 20000 in
set_option maxHeartbeats 3200000 in
theorem hPush_any (base hb n : Nat) (av : Nat → Prop) (f : Nat → P2) (p : P2) (w : World) (hS : HeapS base hb av n f w) (hF : HeapF n f) (ha : ∀ j, w.heap.size ≤ j → ¬ av j) (hn : n ≤ 900000) :
    Calls Tryz.prog 91 #[.iface 148 (.pointer (some ⟨hb, 0, none⟩)), .iface 150 (.agg #[.int .i64 p.t, .int .i64 p.d])] w (PushedH base hb av n f p w) := by
  obtain ⟨g, c, h1, h2, h3, h4, h5, h6, h7⟩ := hS
  have hgl := h5.lt g rfl
  have hcg : lstF n f = lstF n (withP n f p) := lstF_congr fun k hk => (withP_lt f p hk).symm
  rw [hcg] at h5
  have HF := Lib.hid (heap_push hF (withP n f p) (fun k hk => withP_lt f p hk))
  have HA := Lib.hid ha
  have HP := Lib.hid (thPush_any base hb g n c (withP n f p) p w h1 h2 h3 (by omega) h5 h6 (by omega) (withP_n n f p))
  clear h1 h2 h5 hF ha hcg
  go_enter Tryz.func91, Tryz.ntmps91
  go_wp2_with fail
  refine HP.out.mono ?_
  rintro e w2 ⟨rfl, g', c', r0, r1, hown, hg', hne, hk⟩
  have HO := Lib.hid hown
  have HK := Lib.hid hk
  have hgn : base ≤ g' ∧ ¬ av g' := by
    rcases hg' with rfl | hg'
    · exact ⟨hgl.1, h7⟩
    · exact ⟨by omega, HA.out g' hg'⟩
  have HGN := Lib.hid hgn
  have mL := mLen r0
  have e1 : ((n + 1 : Nat) : Int) - 1 = (n : Int) := by omega
  have hsz := hk.2.2.2.1
  have HD := Lib.hid (show HdrS hb g' (n + 1) c' w2 from ⟨r0, r1, by omega, hne⟩)
  clear hown hk hgn
  go_wp2_with fail
  refine (thLen_any (.int .i64 0) _ (n + 1) c' w2).mono ?_
  rintro e w3 ⟨rfl, rfl⟩
  clear mL r0 r1
  go_wp2_with fail
  refine (up_any base hb g' (n + 1) c' n (withP n f p) w2 HD.out HO.out (by omega) (by omega) HF.out).mono ?_
  rintro e w4 ⟨rfl, f', hF', hbag, hown', hgr⟩
  have HF' := Lib.hid hF'
  have HB' := Lib.hid hbag
  have HO' := Lib.hid hown'
  have HG' := Lib.hid hgr
  clear hF' hbag hown' hgr
  go_wp2_with fail
  go_end0
  obtain ⟨d1, d2, d3, d4⟩ := HD.out.grown HG'.out
  exact ⟨rfl, f', HF'.out, fun y => by rw [lst_bag, lst_bag, HB'.out y, withP_bag], ⟨g', c', d1, d2, d3, h4, HO'.out, hne, HGN.out.2⟩,
    (keeps_h HK.out ⟨hgl.1, h7⟩).trans (keeps_g HG'.out HGN.out) (fun i _ h => h)⟩

/-- How Pop ends. -/
def PoppedH (base hb : Nat) (av : Nat → Prop) (n : Nat) (f : Nat → P2) (w : World) (e : Ending) (w' : World) : Prop :=
  ∃ f', e = .returned (.iface 150 (.agg #[.int .i64 (f 0).t, .int .i64 (f 0).d])) ∧ HeapF n f' ∧ Popped (lstF (n + 1) f) (lstF n f') (f 0) ∧ HeapS base hb av n f' w' ∧ Keeps (Own1 base hb av) w w'

set_option maxRecDepth 20000 in
set_option maxHeartbeats 3200000 in
theorem hPop_any (base hb n : Nat) (av : Nat → Prop) (f : Nat → P2) (w : World) (hS : HeapS base hb av (n + 1) f w) (hF : HeapF (n + 1) f) (hn : n ≤ 900000) :
    Calls Tryz.prog 90 #[.iface 148 (.pointer (some ⟨hb, 0, none⟩))] w (PoppedH base hb av n f w) := by
  obtain ⟨g, c, h1, h2, h3, h4, h5, h6, h7⟩ := hS
  have hgl := h5.lt g rfl
  have HF := Lib.hid (heap_pop hF)
  have HRT := Lib.hid (fun k (hk : k < n + 1) => heap_root hF k k (Nat.le_refl _) hk)
  have HD := Lib.hid (show HdrS hb g (n + 1) c w from ⟨h1, h2, h3, h6⟩)
  have HO := Lib.hid h5
  have mL := mLen h1
  have mS := mSwap h1
  have e1 : ((n + 1 : Nat) : Int) - 1 = (n : Int) := by omega
  clear h1 h2 h5 hF
  go_enter Tryz.func90, Tryz.ntmps90
  go_wp2_with fail
  refine (thLen_any (.int .i64 0) _ (n + 1) c w).mono ?_
  rintro e w1 ⟨rfl, rfl⟩
  clear mL
  go_wp2_with fail
  refine (thSwap_any base g (n + 1) c 0 n f w HO.out (by omega) (by omega)).mono ?_
  rintro e w2 ⟨rfl, hown2, hg2⟩
  have HO2 := Lib.hid hown2
  have HG2 := Lib.hid hg2
  clear hown2 hg2 mS
  go_wp2_with fail
  refine (down_any base hb g n c (swF f 0 n) w2 (HD.out.grown HG2.out) HO2.out (by omega) HF.out).mono ?_
  rintro e w3 ⟨⟨b, rfl⟩, f', hF', hbag, hlast, hown3, hg3⟩
  have HF' := Lib.hid hF'
  have HB' := Lib.hid hbag
  have HL' := Lib.hid hlast
  have HO3 := Lib.hid hown3
  have HG3 := Lib.hid (grown_trans HG2.out hg3)
  obtain ⟨r0, r1, r2, r3⟩ := HD.out.grown HG3.out
  have HP := Lib.hid (thPop_any base hb g n c f' w3 r0 r1 r2 hown3 h6 (by omega))
  clear hF' hbag hlast hown3 hg3 r0 r1
  go_wp2_with fail
  refine HP.out.mono ?_
  rintro e w4 ⟨rfl, s0, s1, hown4, hk4⟩
  have HO4 := Lib.hid hown4
  have HK4 := Lib.hid hk4
  have HC4 := Lib.hid (And.intro s0 s1)
  clear hown4 hk4 s0 s1
  go_wp2_with fail
  go_ret
  have hfn : f' n = f 0 := by rw [HL'.out, swF_r]
  have hmem : ∀ y, bagF (n + 1) f y ↔ y = f 0 ∨ bagF n f' y := fun y => by
    rw [HB'.out y, ← bag_swap (i := 0) (j := n) (f := f) (by omega) (by omega) y]
    constructor
    · rintro ⟨k, hk, rfl⟩
      by_cases e : k < n
      · exact .inr ⟨k, e, rfl⟩
      · obtain rfl : k = n := by omega
        exact .inl (swF_r f 0 k)
    · rintro (rfl | ⟨k, hk, rfl⟩)
      · exact ⟨n, by omega, swF_r f 0 n⟩
      · exact ⟨k, by omega, rfl⟩
  refine ⟨f', by rw [hfn]; rfl, HF'.out, ⟨?_, fun y hy => ?_, fun y hy => ?_, fun y hy => ?_, by rw [lstF_len, lstF_len]⟩, ⟨g, c, HC4.out.1, HC4.out.2, Nat.lt_of_lt_of_le r2 HK4.out.2.2.2.1, h4, HO4.out, h6, h7⟩, (keeps_g HG3.out ⟨hgl.1, h7⟩).trans (keeps_h HK4.out ⟨hgl.1, h7⟩) (fun i _ h => h)⟩
  · rw [lst_bag]; exact (hmem _).2 (.inl rfl)
  · rw [lst_bag] at hy ⊢; exact (hmem _).2 (.inr hy)
  · rw [lst_bag] at hy
    rcases (hmem y).1 hy with h | h
    · exact .inl h
    · exact .inr (lst_bag.2 h)
  · rw [lst_bag] at hy
    obtain ⟨k, hk, rfl⟩ := hy
    exact HRT.out k hk
end Go.Proofs.YtgjllminidlolaaGreatDoor
