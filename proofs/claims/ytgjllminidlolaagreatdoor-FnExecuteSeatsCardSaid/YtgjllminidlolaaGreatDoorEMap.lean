/- A map of strings that a call makes: an entry laid, a look-up. -/
import Derived.MapKept
set_option linter.unusedVariables false
namespace Go.Proofs.YtgjllminidlolaaGreatDoor
open Go.MapKept

section
variable {P : Program} {mty kt et : TypeId}
theorem set_alloc (w : World) (o o' : Obj) : ({ (w.alloc o) with heap := (w.alloc o).heap.setIfInBounds w.heap.size o' } : World) = w.alloc o' := by
  have e : (w.alloc o).heap.setIfInBounds w.heap.size o' = (w.alloc o').heap := by
    show (w.heap.push o).setIfInBounds w.heap.size o' = w.heap.push o'
    apply Array.ext_getElem?
    intro i
    rw [Array.getElem?_setIfInBounds]
    by_cases h : w.heap.size = i
    · subst h; simp
    · rw [if_neg h]
      rcases Nat.lt_or_ge i w.heap.size with h1 | h1
      · rw [Array.getElem?_push_lt h1, Array.getElem?_push_lt h1]
      · rw [Array.getElem?_eq_none (by simp; omega), Array.getElem?_eq_none (by simp; omega)]
  rw [e]
  rfl
/-- One entry more. -/
theorem run_update_new (hm : P.underlying mty = some (.map kt et)) (hd : P.underlying kt = some .string) (w : World) (es : Array MapEntry) (clock : Nat) (s : ByteArray) (v : Value)
    (hk : ∀ x ∈ es.toList, IsKey .string x.key) (hn : ∀ x ∈ es.toList, x.key ≠ .string s) :
    (Instr.mapUpdate mty (.map (some w.heap.size)) (.string s) v).run P (w.alloc (.map es clock)) = .ok () (w.alloc (.map (es.push { key := .string s, val := v, born := clock }) (clock + 1))) := by
  have hb : (w.alloc (.map es clock)).heap[w.heap.size]? = some (.map es clock) := (heap_alloc w _).1
  have hks : IsKey .string (.string s) := trivial
  have hf : Instr.findNow .string (.string s) es.toList 0 = some none := by
    rcases findNow_spec (d := .string) hks es.toList 0 hk with ⟨h, _⟩ | ⟨j, e, _, h2, h3⟩
    · exact h
    · exact absurd h3 (hn e (List.mem_of_getElem? h2))
  simp [Instr.mapUpdate, run_underlying hm, run_getObj_map hb, run_checkKey hd hks, run_findKey hd hf, run_setObj_map _ hb, Result.andThen]
  exact set_alloc w _ _
/-- A look-up of what is there. -/
theorem run_look_hit (hm : P.underlying mty = some (.map kt et)) (hd : P.underlying kt = some .string) (w : World) (r : Nat) (es : Array MapEntry) (clock : Nat) (hb : w.heap[r]? = some (.map es clock)) (s : ByteArray) (i : Nat) (v : Value)
    (hf : Instr.findNow .string (.string s) es.toList 0 = some (some (i, v))) :
    (Instr.lookup mty (.map (some r)) (.string s) true).run P w = .ok (.tuple #[v, .bool true]) w := by
  have hks : IsKey .string (.string s) := trivial
  simp [Instr.lookup, run_underlying hm, run_getObj_map hb, run_checkKey hd hks, run_findKey hd hf, Result.andThen]
/-- A look-up of what is not there. -/
theorem run_look_miss (hm : P.underlying mty = some (.map kt et)) (hd : P.underlying kt = some .string) (w : World) (r : Nat) (es : Array MapEntry) (clock : Nat) (hb : w.heap[r]? = some (.map es clock)) (s : ByteArray) (z : Value)
    (hf : Instr.findNow .string (.string s) es.toList 0 = some none) (hz : (zeroValue et).run P w = .ok z w) :
    (Instr.lookup mty (.map (some r)) (.string s) true).run P w = .ok (.tuple #[z, .bool false]) w := by
  have hks : IsKey .string (.string s) := trivial
  simp [Instr.lookup, run_underlying hm, run_getObj_map hb, run_checkKey hd hks, run_findKey hd hf, hz, Result.andThen]
end
theorem findNow_cons_hit (s : ByteArray) (v : Value) (b : Nat) (es : List MapEntry) (i : Nat) : Instr.findNow .string (.string s) ({ key := .string s, val := v, born := b } :: es) i = some (some (i, v)) := by
  simp [Instr.findNow, Instr.sameNow, (bytes_beq s s).2 rfl]
theorem findNow_cons_miss (s t : ByteArray) (v : Value) (b : Nat) (es : List MapEntry) (i : Nat) (h : s ≠ t) : Instr.findNow .string (.string s) ({ key := .string t, val := v, born := b } :: es) i = Instr.findNow .string (.string s) es (i + 1) := by
  have e : (s == t) = false := by
    cases hb : (s == t) with
    | false => rfl
    | true => exact absurd ((bytes_beq s t).1 hb) h
  simp [Instr.findNow, Instr.sameNow, e]
end Go.Proofs.YtgjllminidlolaaGreatDoor
