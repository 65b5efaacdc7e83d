/- How arguments that are slices of three-integer structs are read. -/
import Derived.Test.YtgjllminidlolaaGreatDoorBase
import Derived.Test.YtgjllminidlolaaGreatDoorRows
import Derived.ProofKit
import Derived.OpenShut
import Derived.ShutString
import Derived.ChangeOld
import Derived.Deep.Slices
import Derived.Deep.Fields
set_option linter.unusedVariables false
namespace Go.Proofs.YtgjllminidlolaaGreatDoor
open Go.ChangeShapes Go.WideShapes Go.ChangeAt Go.RowKit Go.Deep

theorem own : ownKnob Tryz.prog.godebug = none := by kernel_rfl
theorem laidOut : laidOutB Tryz.prog = true := by kernel_rfl

theorem addr_add (b off i : Nat) : (⟨b, off, none⟩ : Addr).add i = ⟨b, off + i, none⟩ := by
  unfold Addr.add
  split
  · rename_i h; subst h; rfl
  · rfl

/-- The cells of a struct of three integers. -/
theorem open_cells3 {H : Type} {enc : TypeId × Value → H} {P : Program} {w : World} {base : Nat} {spare : Nat → Bool} {held : Bool} {e : TypeId} {f0 f1 f2 : Field} {n : Nat} {cs : List Value} {x : DataW H × List MemPlace}
    (he : P.underlying e = some (.struct #[f0, f1, f2])) (hone : oneCellFields P #[f0, f1, f2] = true) (hC : P.cellsOf e = 3)
    (i0 : P.underlying f0.type = some (.int .i64)) (i1 : P.underlying f1.type = some (.int .i64)) (i2 : P.underlying f2.type = some (.int .i64))
    (h : DataW.trod enc P w base spare held n e cs = some x) : ∃ p : T3, cs = enc3 p ∧ (Lit.int .i64 p.a).wf = true ∧ (Lit.int .i64 p.b).wf = true ∧ (Lit.int .i64 p.c).wf = true := by
  obtain ⟨xs, m, _, _, hl, hxl, hf⟩ := DataW.trod_struct he h
  obtain ⟨o0, k0⟩ := hone_of hone 0 f0 rfl
  obtain ⟨o1, k1⟩ := hone_of hone 1 f1 rfl
  obtain ⟨o2, k2⟩ := hone_of hone 2 f2 rfl
  rw [hC] at hl
  match cs, hl, xs, hxl with
  | [c0, c1, c2], _, [y0, y1, y2], _ =>
    have h0 := hf 0 f0 rfl
    have h1 := hf 1 f1 rfl
    have h2 := hf 2 f2 rfl
    rw [o0, k0] at h0
    rw [o1, k1] at h1
    rw [o2, k2] at h2
    obtain ⟨a, ha, _, wa⟩ := DataW.trod_int i0 (x := y0) (cs := [c0]) h0
    obtain ⟨b, hb, _, wb⟩ := DataW.trod_int i1 (x := y1) (cs := [c1]) h1
    obtain ⟨c, hc, _, wc⟩ := DataW.trod_int i2 (x := y2) (cs := [c2]) h2
    injection ha with ha
    injection hb with hb
    injection hc with hc
    subst ha hb hc
    exact ⟨⟨a, b, c⟩, rfl, wa, wb, wc⟩

/-- A slice of structs of three integers reads as a list. -/
theorem open_slice3 {H : Type} {enc : TypeId × Value → H} {P : Program} {w : World} {base : Nat} {spare : Nat → Bool} {held : Bool} {t e : TypeId} {f0 f1 f2 : Field} {A : Option Addr} {len cap : Nat} {d : DataW H} {ps : List MemPlace}
    (ht : P.underlying t = some (.slice e)) (he : P.underlying e = some (.struct #[f0, f1, f2])) (hone : oneCellFields P #[f0, f1, f2] = true) (hC : P.cellsOf e = 3)
    (i0 : P.underlying f0.type = some (.int .i64)) (i1 : P.underlying f1.type = some (.int .i64)) (i2 : P.underlying f2.type = some (.int .i64))
    (h : DataW.Trod enc P w base spare held t (.slice A len cap) d ps) :
    ∃ xs : List T3, SlE 3 enc3 w A len xs ∧ len ≤ 9223372036854775807 ∧ ∀ p ∈ xs, (Lit.int .i64 p.a).wf = true ∧ (Lit.int .i64 p.b).wf = true ∧ (Lit.int .i64 p.c).wf = true := by
  obtain ⟨fuel, hf⟩ := h
  rcases open_slice ht hf with ⟨hcs, _⟩ | ⟨a, l, c, m, n, D, Pl, hcs, hb, hl, hm, hmm, hx, hi⟩
  · simp [Value.cells] at hcs
    obtain ⟨rfl, rfl, rfl⟩ := hcs
    exact ⟨[], ⟨rfl, fun h => absurd h (by omega)⟩, by omega, fun p hp => by simp at hp⟩
  · simp only [Value.cells, List.cons.injEq, Value.slice.injEq, and_true] at hcs
    obtain ⟨rfl, rfl, rfl⟩ := hcs
    have hlm : len ≤ m := by rw [hmm]; split <;> omega
    have key : ∀ i, i < len → ∃ p : T3, (∀ j u, (enc3 p)[j]? = some u → w.cell? (a.add (i * 3 + j)) = some u) ∧ (Lit.int .i64 p.a).wf = true ∧ (Lit.int .i64 p.b).wf = true ∧ (Lit.int .i64 p.c).wf = true := by
      intro i hil
      obtain ⟨cs', hcs', htr⟩ := hi i (by omega)
      obtain ⟨p, rfl, wf⟩ := open_cells3 he hone hC i0 i1 i2 htr
      rw [hC] at hcs'
      obtain ⟨_, _, hat⟩ := World.cells?_some hcs'
      refine ⟨p, fun j u hu => ?_, wf⟩
      have hj : j < 3 := by
        rcases Nat.lt_or_ge j 3 with h | h
        · exact h
        · rw [List.getElem?_eq_none (by rw [enc3_len]; exact h)] at hu; cases hu
      have := hat j hj
      rw [hu] at this
      rw [← this]
      unfold Addr.add
      by_cases h1 : i * 3 = 0
      · simp [h1]
      · by_cases h2 : j = 0
        · subst h2; simp
        · have h3 : i * 3 + j ≠ 0 := by omega
          simp [h1, h2, Nat.add_assoc]
    let f : Nat → T3 := fun i => if h : i < len then (key i h).choose else default
    have hfs : ∀ i (h : i < len), f i = (key i h).choose := fun i h => by simp [f, h]
    refine ⟨(List.range len).map f, ⟨by simp, fun hn => ?_⟩, by unfold maxLen at hm; omega, ?_⟩
    · have k0 := (key 0 hn).choose_spec.1 0 _ rfl
      obtain ⟨b, off, spot⟩ := a
      have hspot : spot = none := by have := World.cell?_spot k0; simpa [Addr.add] using this
      subst hspot
      refine ⟨b, off, rfl, by have := World.block_lt_of_cell? w _ k0; simpa [Addr.add] using this, fun j p hp i v hv => ?_⟩
      have hj : j < len := by
        rcases Nat.lt_or_ge j len with h | h
        · exact h
        · rw [List.getElem?_eq_none (by simpa using h)] at hp; cases hp
      simp only [List.getElem?_map, List.getElem?_range hj, Option.map_some, Option.some.injEq] at hp
      rw [hfs j hj] at hp
      subst hp
      have := (key j hj).choose_spec.1 i v hv
      rwa [addr_add] at this
    · intro p hp
      simp only [List.mem_map, List.mem_range] at hp
      obtain ⟨i, hil, rfl⟩ := hp
      rw [hfs i hil]
      exact (key i hil).choose_spec.2

/-- A struct of three integers that is handed by value. -/
theorem open_val3 {H : Type} {enc : TypeId × Value → H} {P : Program} {w W : World} {base b0 : Nat} {r : Reach} {spare : Nat → Bool} {held : Bool} {e : TypeId} {f0 f1 f2 : Field} {v : Value} {d : DataW H} {ps : List MemPlace}
    (he : P.underlying e = some (.struct #[f0, f1, f2])) (hone : oneCellFields P #[f0, f1, f2] = true) (hC : P.cellsOf e = 3)
    (i0 : P.underlying f0.type = some (.int .i64)) (i1 : P.underlying f1.type = some (.int .i64)) (i2 : P.underlying f2.type = some (.int .i64))
    (hv : Value.okWide P W r b0 e v) (h : DataW.Trod enc P w base spare held e v d ps) :
    ∃ p : T3, v = .agg #[.int .i64 p.a, .int .i64 p.b, .int .i64 p.c] ∧ (Lit.int .i64 p.a).wf = true ∧ (Lit.int .i64 p.b).wf = true ∧ (Lit.int .i64 p.c).wf = true := by
  obtain ⟨cs, rfl, hsz⟩ := okWide_struct he hv
  obtain ⟨fuel, hf⟩ := h
  have hc : (Value.agg cs).cells = cs := rfl
  rw [hc] at hf
  obtain ⟨p, hp, wf⟩ := open_cells3 he hone hC i0 i1 i2 hf
  refine ⟨p, ?_, wf⟩
  congr 1
  apply Array.toList_inj.1
  rw [hp]
  rfl
end Go.Proofs.YtgjllminidlolaaGreatDoor
