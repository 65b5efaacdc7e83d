/- Texts of mine in one: RMap RWalkC RWalkE ConR. -/
import Derived.Maps.RangeWalk
import Derived.Maps.OwnOps
import Derived.MapKept
import Derived.Below
import Derived.Test.YtgjllminidlolaaGreatDoorVAE
import Derived.Test.YtgjllminidlolaaGreatDoorVAB
import Derived.Test.YtgjllminidlolaaGreatDoorVAF
import Derived.Test.YtgjllminidlolaaGreatDoorVAC
/- Maps of towns, entry by entry: the laws at the operations. -/
set_option linter.unusedVariables false
namespace Go.Proofs.YtgjllminidlolaaGreatDoor
open Go Go.RowKit Go.MapKept Go.ChangeMaps

/-- The entries of a map into which so many keys have been laid, each once, in this order. -/
def entG (l : List (Int × Value)) : List MapEntry := l.mapIdx fun i p => { key := .int .i64 p.1, val := p.2, born := i }
def MapG (w : World) (b : Nat) (l : List (Int × Value)) : Prop := w.heap[b]? = some (.map (entG l).toArray l.length)
def KeysD (l : List (Int × Value)) : Prop := (l.map (·.1)).Nodup
theorem entG_len (l : List (Int × Value)) : (entG l).length = l.length := by simp [entG]
theorem entG_at (l : List (Int × Value)) (i : Nat) : (entG l)[i]? = (l[i]?).map fun p => { key := .int .i64 p.1, val := p.2, born := i } := by simp [entG, List.getElem?_mapIdx]
theorem entG_push (l : List (Int × Value)) (k : Int) (v : Value) : (entG l).toArray.push { key := .int .i64 k, val := v, born := l.length } = (entG (l ++ [(k, v)])).toArray := by
  simp [entG, List.mapIdx_append]
theorem entG_mem {l : List (Int × Value)} {x : MapEntry} (h : x ∈ entG l) : ∃ i p, l[i]? = some p ∧ x = { key := .int .i64 p.1, val := p.2, born := i } := by
  obtain ⟨i, hi⟩ := List.getElem?_of_mem h
  rw [entG_at] at hi
  cases hp : l[i]? with
  | none => rw [hp] at hi; cases hi
  | some p => rw [hp] at hi; exact ⟨i, p, hp, by simpa using hi.symm⟩
theorem entG_keys (l : List (Int × Value)) : ∀ x ∈ entG l, IsKey (.int .i64) x.key := fun x hx => by
  obtain ⟨i, p, _, rfl⟩ := entG_mem hx
  exact rfl
theorem keys_one {l : List (Int × Value)} (hn : KeysD l) {i j : Nat} {p q : Int × Value} (hi : l[i]? = some p) (hj : l[j]? = some q) (h : p.1 = q.1) : i = j := by
  have h1 : (l.map (·.1))[i]? = some p.1 := by rw [List.getElem?_map, hi]; rfl
  have h2 : (l.map (·.1))[j]? = some p.1 := by rw [List.getElem?_map, hj, h]; rfl
  have hl := (List.getElem?_eq_some_iff.1 h1).1
  exact (List.getElem?_inj hl hn).1 (h1.trans h2.symm)
theorem keys_val {l : List (Int × Value)} (hn : KeysD l) {p q : Int × Value} (hp : p ∈ l) (hq : q ∈ l) (h : p.1 = q.1) : p = q := by
  obtain ⟨i, hi⟩ := List.getElem?_of_mem hp
  obtain ⟨j, hj⟩ := List.getElem?_of_mem hq
  have := keys_one hn hi hj h
  subst this
  rw [hi] at hj
  exact Option.some.inj hj
theorem keysD_snoc {l : List (Int × Value)} (hn : KeysD l) {k : Int} (v : Value) (hk : k ∉ l.map (·.1)) : KeysD (l ++ [(k, v)]) := by
  unfold KeysD at *
  rw [List.map_append, List.map_singleton]
  refine List.nodup_append.2 ⟨hn, by simp, fun a ha b hb => ?_⟩
  rw [List.mem_singleton] at hb
  subst hb
  exact fun e => hk (e ▸ ha)
theorem findG {l : List (Int × Value)} (k : Int) : (Instr.findNow (.int .i64) (.int .i64 k) (entG l) 0 = some none ∧ k ∉ l.map (·.1)) ∨ ∃ j v, Instr.findNow (.int .i64) (.int .i64 k) (entG l) 0 = some (some (j, v)) ∧ l[j]? = some (k, v) := by
  rcases findNow_spec (d := .int .i64) (k := .int .i64 k) rfl (entG l) 0 (entG_keys l) with ⟨h1, h2⟩ | ⟨j, e, h1, h2, h3⟩
  · refine .inl ⟨h1, fun hm => ?_⟩
    obtain ⟨p, hp, rfl⟩ := List.mem_map.1 hm
    obtain ⟨i, hi⟩ := List.getElem?_of_mem hp
    have h4 : (entG l)[i]? = some { key := .int .i64 p.1, val := p.2, born := i } := by rw [entG_at, hi]; rfl
    exact h2 _ (List.mem_of_getElem? h4) rfl
  · rw [entG_at] at h2
    cases hp : l[j]? with
    | none => rw [hp] at h2; cases h2
    | some p =>
      rw [hp] at h2
      obtain rfl : { key := .int .i64 p.1, val := p.2, born := j } = e := by simpa using h2
      obtain rfl : p.1 = k := by simpa using h3
      exact .inr ⟨j, p.2, by rw [h1, Nat.zero_add], hp⟩

/-- What turns: blocks of S alone, and new ones. -/
structure Keeps (S : Nat → Prop) (w w' : World) : Prop where
  os : w'.os = w.os
  tape : w'.tape = w.tape
  output : w'.output = w.output
  size : w.heap.size ≤ w'.heap.size
  block : ∀ k, k < w.heap.size → ¬ S k → w'.heap[k]? = w.heap[k]?
theorem Keeps.refl (S : Nat → Prop) (w : World) : Keeps S w w := ⟨rfl, rfl, rfl, Nat.le_refl _, fun _ _ _ => rfl⟩
theorem Keeps.trans {S T : Nat → Prop} {a b c : World} (h : Keeps S a b) (k : Keeps T b c) (hT : ∀ i, i < a.heap.size → T i → S i) : Keeps S a c :=
  ⟨k.os.trans h.os, k.tape.trans h.tape, k.output.trans h.output, Nat.le_trans h.size k.size, fun i hi hs => (k.block i (Nat.lt_of_lt_of_le hi h.size) (fun ht => hs (hT i hi ht))).trans (h.block i hi hs)⟩
theorem Keeps.mono {S T : Nat → Prop} {a b : World} (h : Keeps S a b) (hT : ∀ i, i < a.heap.size → S i → T i) : Keeps T a b := ⟨h.os, h.tape, h.output, h.size, fun i hi ht => h.block i hi (fun hs => ht (hT i hi hs))⟩
theorem Keeps.of_grown {a b : World} {r : Nat} (h : a.grownBy b (some r)) : Keeps (· = r) a b := ⟨h.os, h.tape, h.output, h.size, fun i hi hs => h.block i hi (fun e => hs (Option.some.inj e))⟩
theorem Keeps.of_grown0 {a b : World} (S : Nat → Prop) (h : a.grownBy b none) : Keeps S a b := ⟨h.os, h.tape, h.output, h.size, fun i hi hs => h.block i hi (by simp)⟩
theorem Keeps.below {S : Nat → Prop} {a b : World} (h : Keeps S a b) {B : Nat} (hB : B ≤ a.heap.size) (hS : ∀ i, i < B → ¬ S i) : Below B a b := ⟨h.os, h.tape, h.output, h.size, fun i hi => h.block i (Nat.lt_of_lt_of_le hi hB) (hS i hi)⟩
theorem Keeps.of_below {a b : World} (h : Below a.heap.size a b) (S : Nat → Prop) : Keeps S a b := ⟨h.os, h.tape, h.output, h.size, fun i hi _ => h.block i hi⟩
theorem MapG.lt {w : World} {b : Nat} {l : List (Int × Value)} (h : MapG w b l) : b < w.heap.size := (Array.getElem?_eq_some_iff.1 h).1
theorem MapG.keeps {w w' : World} {b : Nat} {l : List (Int × Value)} (h : MapG w b l) {S : Nat → Prop} (k : Keeps S w w') (hs : ¬ S b) : MapG w' b l := (k.block b h.lt hs).trans h
theorem MapG.below {w w' : World} {b B : Nat} {l : List (Int × Value)} (h : MapG w b l) (k : Below B w w') (hb : b < B) : MapG w' b l := (k.block b hb).trans h
theorem MapG.made (w : World) : MapG (w.alloc (.map #[] 0)) w.heap.size [] := (heap_alloc w _).1
theorem grown_set {w : World} {b : Nat} {o o' : Obj} (h : w.heap[b]? = some o) : w.grownBy (setBlock w b o') (some b) ∧ (setBlock w b o').heap[b]? = some o' ∧ (setBlock w b o').heap.size = w.heap.size :=
  ⟨⟨rfl, rfl, rfl, by simp [setBlock], fun k hk hne => (heap_set (o' := o') h).2 k (fun e => hne (by rw [e]))⟩, (heap_set (o' := o') h).1, by simp [setBlock]⟩

section
variable {P : Program} {mty kt et : TypeId}
theorem run_lookG (hm : P.underlying mty = some (.map kt et)) (hd : P.underlying kt = some (.int .i64)) (w : World) {b : Nat} {l : List (Int × Value)} (h : MapG w b l) (hn : KeysD l) {k : Int} {v : Value} (hv : (k, v) ∈ l) :
    (Instr.lookup mty (.map (some b)) (.int .i64 k) true).run P w = .ok (.tuple #[v, .bool true]) w ∧ (Instr.lookup mty (.map (some b)) (.int .i64 k) false).run P w = .ok v w := by
  rcases findG (l := l) k with ⟨_, h2⟩ | ⟨j, v', h1, h2⟩
  · exact absurd (List.mem_map.2 ⟨_, hv, rfl⟩) h2
  · have e := keys_val hn hv (List.mem_of_getElem? h2) rfl
    obtain rfl : v = v' := (Prod.mk.inj e).2
    constructor <;> simp [Instr.lookup, run_underlying hm, MapKept.run_getObj_map (show w.heap[b]? = _ from h), run_checkKey hd (k := .int .i64 k) rfl, run_findKey hd h1, Result.andThen]
theorem run_missG (hm : P.underlying mty = some (.map kt et)) (hd : P.underlying kt = some (.int .i64)) (w : World) {b : Nat} {l : List (Int × Value)} (h : MapG w b l) {k : Int} (hk : k ∉ l.map (·.1)) {z : Value} (hz : (zeroValue et).run P w = .ok z w) :
    (Instr.lookup mty (.map (some b)) (.int .i64 k) true).run P w = .ok (.tuple #[z, .bool false]) w ∧ (Instr.lookup mty (.map (some b)) (.int .i64 k) false).run P w = .ok z w := by
  rcases findG (l := l) k with ⟨h1, _⟩ | ⟨j, v', h1, h2⟩
  · constructor <;> simp [Instr.lookup, run_underlying hm, MapKept.run_getObj_map (show w.heap[b]? = _ from h), run_checkKey hd (k := .int .i64 k) rfl, run_findKey hd h1, hz, Result.andThen]
  · exact absurd (List.mem_map.2 ⟨_, List.mem_of_getElem? h2, rfl⟩) hk
theorem run_updG (hm : P.underlying mty = some (.map kt et)) (hd : P.underlying kt = some (.int .i64)) (w : World) {b : Nat} {l : List (Int × Value)} (h : MapG w b l) {k : Int} (hk : k ∉ l.map (·.1)) (v : Value) :
    (Instr.mapUpdate mty (.map (some b)) (.int .i64 k) v).run P w = .ok () (setBlock w b (.map (entG (l ++ [(k, v)])).toArray (l.length + 1))) := by
  rcases findG (l := l) k with ⟨h1, _⟩ | ⟨j, v', h1, h2⟩
  · simp [Instr.mapUpdate, run_underlying hm, MapKept.run_getObj_map (show w.heap[b]? = _ from h), run_checkKey hd (k := .int .i64 k) rfl, run_findKey hd h1, MapKept.run_setObj_map _ (show w.heap[b]? = _ from h), Result.andThen]
    rw [← entG_push]
    simp [setBlock]
  · exact absurd (List.mem_map.2 ⟨_, List.mem_of_getElem? h2, rfl⟩) hk

variable (w : World) {ops : Array Oper} {rest : List Oper} {o : Oper} {a : Act} {Q : Exit → Act → World → Prop}
/-- 'm[k]', 'v, ok := m[k]' where k is there. -/
theorem wp_lookG (hg : o.guard = none) (m x : Operand) (t : TypeId) (c : Bool) (hop : o.op = Op.lookup t m x c) (k e : TypeId) (ht : P.underlying t = some (.map k e)) (hd : P.underlying k = some (.int .i64))
    (b : Nat) (l : List (Int × Value)) (hm : a.eval m = .map (some b)) (h : MapG w b l) (hn : KeysD l) (key : Int) (hx : a.eval x = .int .i64 key) (v : Value) (hv : (key, v) ∈ l)
    (hK : wpList P ops Q rest (a.put o.dst (if c = true then .tuple #[v, .bool true] else v)) w) : wpList P ops Q (o :: rest) a w := by
  refine wpList_plain hg fun K' hK' => ?_
  have hr := run_lookG ht hd w h hn hv
  unfold Oper.wp
  cases c
  · simp [execOp, hop, hm, hx, hr.2, Result.andThen]
    exact hK' _ _ hK
  · simp [execOp, hop, hm, hx, hr.1, Result.andThen]
    exact hK' _ _ hK
/-- .. where k is not there. -/
theorem wp_missG (hg : o.guard = none) (m x : Operand) (t : TypeId) (c : Bool) (hop : o.op = Op.lookup t m x c) (k e : TypeId) (ht : P.underlying t = some (.map k e)) (hd : P.underlying k = some (.int .i64))
    (b : Nat) (l : List (Int × Value)) (hm : a.eval m = .map (some b)) (h : MapG w b l) (key : Int) (hx : a.eval x = .int .i64 key) (hk : key ∉ l.map (·.1)) (z : Value) (hz : (zeroValue e).run P w = .ok z w)
    (hK : wpList P ops Q rest (a.put o.dst (if c = true then .tuple #[z, .bool false] else z)) w) : wpList P ops Q (o :: rest) a w := by
  refine wpList_plain hg fun K' hK' => ?_
  have hr := run_missG ht hd w h hk hz
  unfold Oper.wp
  cases c
  · simp [execOp, hop, hm, hx, hr.2, Result.andThen]
    exact hK' _ _ hK
  · simp [execOp, hop, hm, hx, hr.1, Result.andThen]
    exact hK' _ _ hK
/-- 'm[k] = v' where k is not there. -/
theorem wp_updG (hg : o.guard = none) (m x v : Operand) (t : TypeId) (hop : o.op = Op.mapUpdate t m x v) (k e : TypeId) (ht : P.underlying t = some (.map k e)) (hd : P.underlying k = some (.int .i64))
    (b : Nat) (l : List (Int × Value)) (hm : a.eval m = .map (some b)) (h : MapG w b l) (key : Int) (hx : a.eval x = .int .i64 key) (hk : key ∉ l.map (·.1)) (val : Value) (hv : a.eval v = val)
    (hK : ∀ w', MapG w' b (l ++ [(key, val)]) → w.grownBy w' (some b) → w'.heap.size = w.heap.size → wpList P ops Q rest (a.put o.dst undef) w') : wpList P ops Q (o :: rest) a w := by
  refine wpList_plain hg fun K' hK' => ?_
  have hr := run_updG ht hd w h hk val
  obtain ⟨h1, h2, h3⟩ := grown_set (o' := .map (entG (l ++ [(key, val)])).toArray (l.length + 1)) h
  unfold Oper.wp
  simp [execOp, hop, hm, hx, hv, hr, Result.andThen]
  exact hK' _ _ (hK _ (by unfold MapG; rw [h2, List.length_append]; rfl) h1 h3)
/-- 'make(map[K]V)'. -/
theorem wp_makeG (hg : o.guard = none) (t : TypeId) (hop : o.op = Op.makeMap t none)
    (hK : ∀ w', MapG w' w.heap.size [] → w.grownBy w' none → w'.heap.size = w.heap.size + 1 → wpList P ops Q rest (a.put o.dst (.map (some w.heap.size))) w') : wpList P ops Q (o :: rest) a w := by
  refine wpList_plain hg fun K' hK' => ?_
  unfold Oper.wp
  simp [execOp, hop, run_makeMap, Result.andThen]
  exact hK' _ _ (hK _ (MapG.made w) (World.grownBy_alloc w _ none) (by simp))
/-- An iterator of a range: which entries have come, in which order. -/
def IterG (w : World) (r b n : Nat) (seen : List Nat) : Prop := ∃ c0, n ≤ c0 ∧ w.heap[r]? = some (.mapIter (some b) n seen.toArray c0)
theorem IterG.lt {w : World} {r b n : Nat} {seen : List Nat} (h : IterG w r b n seen) : r < w.heap.size := by
  obtain ⟨c0, _, h⟩ := h
  exact (Array.getElem?_eq_some_iff.1 h).1
theorem IterG.keeps {w w' : World} {r b n : Nat} {seen : List Nat} (h : IterG w r b n seen) {S : Nat → Prop} (k : Keeps S w w') (hs : ¬ S r) : IterG w' r b n seen := by
  have := h.lt
  obtain ⟨c0, h1, h2⟩ := h
  exact ⟨c0, h1, (k.block r this hs).trans h2⟩
/-- 'range m'. -/
theorem wp_rangeG (hg : o.guard = none) (m : Operand) (t : TypeId) (hop : o.op = Op.range t m) (k e : TypeId) (ht : P.underlying t = some (.map k e)) (b : Nat) (l : List (Int × Value)) (hm : a.eval m = .map (some b)) (h : MapG w b l)
    (hK : ∀ w', IterG w' w.heap.size b l.length [] → w.grownBy w' none → w'.heap.size = w.heap.size + 1 → wpList P ops Q rest (a.put o.dst (.pointer (some ⟨w.heap.size, 0, none⟩))) w') : wpList P ops Q (o :: rest) a w := by
  refine wpList_plain hg fun K' hK' => ?_
  have hrun := run_range_map w t k e b (entG l).toArray l.length ht h
  unfold Oper.wp
  simp [execOp, hop, hm, hrun, Result.andThen]
  exact hK' _ _ (hK _ ⟨l.length, Nat.le_refl _, (heap_alloc w _).1⟩ (World.grownBy_alloc w _ none) (by simp))
/-- THE STEP: all have come, or one that has not. -/
theorem wp_nextG (hg : o.guard = none) (it : Operand) (hop : o.op = Op.next it false) (r b : Nat) (l : List (Int × Value)) (seen : List Nat) (hit : a.eval it = .pointer (some ⟨r, 0, none⟩)) (h : MapG w b l) (hr : IterG w r b l.length seen)
    (hDone : (∀ i, i < l.length → i ∈ seen) → wpList P ops Q rest (a.put o.dst (.tuple #[.bool false])) w)
    (hMore : ∀ (i : Nat) (x : Int) (v : Value) (w' : World), l[i]? = some (x, v) → i ∉ seen → IterG w' r b l.length (seen ++ [i]) → w.grownBy w' (some r) → w'.heap.size = w.heap.size →
      (Instr.entry (.pointer (some ⟨r, 0, none⟩))).run P w' = .ok (.tuple #[.int .i64 x, v]) w' → wpList P ops Q rest (a.put o.dst (.tuple #[.bool true, .int .i64 x, v])) w') :
    wpList P ops Q (o :: rest) a w := by
  refine wpList_plain hg fun K' hK' => ?_
  unfold Oper.wp
  obtain ⟨c0, hc, hr⟩ := hr
  have hne : r ≠ b := fun e => by rw [e, show w.heap[b]? = _ from h] at hr; cases hr
  have hold : ∀ x ∈ (entG l).toArray.toList, x.born < l.length := fun x hx => by
    obtain ⟨i, p, hp, rfl⟩ := entG_mem hx
    exact (List.getElem?_eq_some_iff.1 hp).1
  rcases run_next_at (P := P) w o.type r b l.length c0 seen.toArray (entG l).toArray l.length hr h hold hc with ⟨h0, hrun⟩ | ⟨e, he, w1, hal, hrun⟩
  · simp [execOp, hop, hit, hrun, Result.andThen]
    refine hK' _ _ (hDone fun i hi => ?_)
    obtain ⟨p, hp⟩ : ∃ p, l[i]? = some p := ⟨_, List.getElem?_eq_getElem hi⟩
    have hm : ({ key := .int .i64 p.1, val := p.2, born := i } : MapEntry) ∈ (entG l).toArray.toList := List.mem_of_getElem? (by show (entG l)[i]? = _; rw [entG_at, hp]; rfl)
    have := all_seen (entG l).toArray seen.toArray h0 _ hm
    simpa using this
  · obtain ⟨hem, hes⟩ := mem_left he
    obtain ⟨i, p, hp, rfl⟩ := entG_mem hem
    have hr1 : w1.heap[r]? = some (.mapIter (some b) l.length seen.toArray c0) := by rcases hal with rfl | rfl <;> exact hr
    have hb1 : w1.heap[b]? = some (.map (entG l).toArray l.length) := by rcases hal with rfl | rfl <;> exact h
    obtain ⟨g1, g2, g3⟩ := grown_set (o' := .mapIter (some b) l.length (seen.toArray.push i) l.length) hr1
    have hb' := (heap_set (o' := .mapIter (some b) l.length (seen.toArray.push i) l.length) hr1).2 b (fun e1 => hne e1.symm)
    have hnd : ((entG l).toArray.toList.map (·.born)).Nodup := by
      have : (entG l).map (·.born) = List.range l.length := by
        apply List.ext_getElem?
        intro j
        rw [List.getElem?_map, entG_at]
        by_cases hj : j < l.length
        · rw [List.getElem?_eq_getElem hj, List.getElem?_range hj]
          rfl
        · rw [List.getElem?_eq_none (by omega), List.getElem?_eq_none (by rw [List.length_range]; omega)]
          rfl
      show ((entG l).map (·.born)).Nodup
      rw [this]
      exact List.nodup_range
    have hpush : seen.toArray.push i = (seen ++ [i]).toArray := by simp
    have hen := run_entry_at (P := P) (setBlock w1 r (.mapIter (some b) l.length (seen.toArray.push i) l.length)) r b l.length seen.toArray (entG l).toArray l.length { key := .int .i64 p.1, val := p.2, born := i } g2 (hb'.trans hb1) hem hnd
    rw [hpush] at hen g1 g2 g3
    simp only [hpush] at hrun
    simp [execOp, hop, hit, hrun, Result.andThen]
    refine hK' _ _ (hMore i p.1 p.2 _ hp (by simpa using hes) ⟨l.length, Nat.le_refl _, g2⟩ ?_ ?_ hen)
    · rcases hal with rfl | rfl
      · exact g1
      · exact ⟨rfl, rfl, rfl, by simp [setBlock], fun k hk hne => (g1.block k hk hne)⟩
    · rw [g3]
      rcases hal with rfl | rfl <;> rfl
end
end Go.Proofs.YtgjllminidlolaaGreatDoor
/- Contracts: roads of the program: the map of roads. -/
set_option linter.unusedVariables false
namespace Go.Proofs.YtgjllminidlolaaGreatDoor
open Go.RowKit Go.MapKept

/-- The towns' maps. -/
def topL (bm n : Nat) : List (Int × Value) := (List.range n).map fun (t : Nat) => ((t : Int), Value.map (some (bm + 1 + t)))
def valL (l : List (Int × Int)) : List (Int × Value) := l.map fun p => (p.1, Value.int .i64 p.2)
theorem topL_len (bm n : Nat) : (topL bm n).length = n := by simp [topL]
theorem topL_snoc (bm n : Nat) : topL bm (n + 1) = topL bm n ++ [((n : Int), Value.map (some (bm + 1 + n)))] := by simp [topL, List.range_succ]
theorem topL_mem {bm n t : Nat} (h : t < n) : ((t : Int), Value.map (some (bm + 1 + t))) ∈ topL bm n := List.mem_map.2 ⟨t, List.mem_range.2 h, rfl⟩
theorem topL_keys (bm n : Nat) : (topL bm n).map (·.1) = (List.range n).map fun (t : Nat) => (t : Int) := by simp [topL]
theorem topL_key {bm n : Nat} {t : Int} : t ∈ (topL bm n).map (·.1) ↔ 0 ≤ t ∧ t < n := by
  rw [topL_keys]
  constructor
  · intro h
    obtain ⟨k, hk, rfl⟩ := List.mem_map.1 h
    have := List.mem_range.1 hk
    omega
  · intro h
    exact List.mem_map.2 ⟨t.toNat, List.mem_range.2 (by omega), by omega⟩
theorem topL_D (bm n : Nat) : KeysD (topL bm n) := by
  unfold KeysD
  rw [topL_keys]
  exact List.Pairwise.map _ (fun a b h e => h (by omega)) List.nodup_range
theorem valL_keys (l : List (Int × Int)) : (valL l).map (·.1) = l.map (·.1) := by simp [valL, Function.comp_def]
theorem valL_snoc (l : List (Int × Int)) (k v : Int) : valL (l ++ [(k, v)]) = valL l ++ [(k, Value.int .i64 v)] := by simp [valL]
theorem valL_mem {l : List (Int × Int)} {k v : Int} (h : (k, v) ∈ l) : (k, Value.int .i64 v) ∈ valL l := List.mem_map.2 ⟨_, h, rfl⟩
/-- The map of roads in memory. -/
def GraphAt (n bm : Nat) (xs : List T3) (W : World) : Prop := MapG W bm (topL bm n) ∧ ∀ t : Nat, t < n → MapG W (bm + 1 + t) (valL (nbr xs t))
theorem GraphAt.below {n bm : Nat} {xs : List T3} {W W' : World} (h : GraphAt n bm xs W) (hb : Below W.heap.size W W') : GraphAt n bm xs W' :=
  ⟨h.1.below hb h.1.lt, fun t ht => (h.2 t ht).below hb (h.2 t ht).lt⟩
theorem MapG.grown {w w' : World} {b r : Nat} {l : List (Int × Value)} (h : MapG w b l) (hg : w.grownBy w' (some r)) (hne : b ≠ r) : MapG w' b l := h.keeps (Keeps.of_grown hg) hne
theorem MapG.alloc {w : World} {b : Nat} {l : List (Int × Value)} (h : MapG w b l) (o : Obj) : MapG (w.alloc o) b l := h.below (below_alloc (Below.refl w.heap.size w) o) h.lt
/-- The towns' maps while they are made. -/
def TopAt (bm k : Nat) (W : World) : Prop := MapG W bm (topL bm k) ∧ (∀ t : Nat, t < k → MapG W (bm + 1 + t) []) ∧ W.heap.size = bm + 1 + k
theorem topAt_new (w : World) : TopAt w.heap.size 0 (w.alloc (.map #[] 0)) := ⟨MapG.made w, fun t h => absurd h (by omega), by show (w.heap.push _).size = _; rw [Array.size_push]⟩
theorem topAt_alloc {bm k : Nat} {W : World} (h : TopAt bm k W) : MapG (W.alloc (.map #[] 0)) bm (topL bm k) ∧ (∀ t : Nat, t < k + 1 → MapG (W.alloc (.map #[] 0)) (bm + 1 + t) []) ∧ (W.alloc (.map #[] 0)).heap.size = bm + 1 + (k + 1) := by
  obtain ⟨h1, h2, h3⟩ := h
  refine ⟨h1.alloc _, fun t ht => ?_, by show (W.heap.push _).size = _; rw [Array.size_push, h3]; omega⟩
  by_cases e : t = k
  · subst e
    have := MapG.made W
    rw [h3] at this
    exact this
  · exact (h2 t (by omega)).alloc _
theorem topAt_next {bm k : Nat} {W W2 : World} (h : TopAt bm k W) (ha : MapG (W.alloc (.map #[] 0)) bm (topL bm k) ∧ (∀ t : Nat, t < k + 1 → MapG (W.alloc (.map #[] 0)) (bm + 1 + t) []) ∧ (W.alloc (.map #[] 0)).heap.size = bm + 1 + (k + 1))
    (hm : MapG W2 bm (topL bm k ++ [((k : Int), Value.map (some W.heap.size))])) (hg : (W.alloc (.map #[] 0)).grownBy W2 (some bm)) (hs : W2.heap.size = (W.alloc (.map #[] 0)).heap.size) : TopAt bm (k + 1) W2 := by
  rw [h.2.2, ← topL_snoc] at hm
  exact ⟨hm, fun t ht => (ha.2.1 t ht).grown hg (by omega), by rw [hs, ha.2.2]⟩
theorem topAt_graph {bm n : Nat} {W : World} (h : TopAt bm n W) (xs : List T3) : GraphAt n bm (xs.take 0) W ∧ bm + n < W.heap.size :=
  ⟨⟨h.1, fun t ht => h.2.1 t ht⟩, by have := h.2.2; omega⟩
theorem zeroI (w : World) : (zeroValue 3).run Tryz.prog w = .ok (.int .i64 0) w := by kernel_rfl
theorem nbr_back {n : Int} {xs : List T3} {j : Nat} (h : RoadPre n (xs.take j)) {a b : Int} (hab : a < b) (hno : NoTwin xs j a b) : a ∉ (nbr (xs.take j) b).map (·.1) := fun hm => by
  obtain ⟨⟨v, w⟩, hv, rfl⟩ := List.mem_map.1 hm
  obtain ⟨q, hq, he, _⟩ := nbr_edge hv
  have ho := h.1 q hq
  unfold OkR at ho
  dsimp only at he hab hno
  obtain ⟨i, hi⟩ := List.getElem?_of_mem hq
  rw [List.getElem?_take] at hi
  split at hi
  · exact hno i q (by assumption) hi (by omega)
  · cases hi
theorem nbr_fore {n : Int} {xs : List T3} {j : Nat} (h : RoadPre n (xs.take j)) {a b : Int} (hab : a < b) (hno : NoTwin xs j a b) : b ∉ (nbr (xs.take j) a).map (·.1) := fun hm => by
  obtain ⟨i, q, hi, hq, h1, h2⟩ := (nbr_twin h hab).1 hm
  exact hno i q hi hq ⟨h1, h2⟩
theorem nbr_keysT {n : Int} {xs : List T3} {j : Nat} (h : RoadPre n (xs.take j)) (t : Int) : ((nbr (xs.take j) t).map (·.1)).Nodup := by
  have := nbr_keys (xs.take j).length h t
  rw [List.take_length] at this
  exact this
/-- One way of a road is laid. -/
def HalfAt (n bm : Nat) (xs : List T3) (x y : Nat) (z : Int) (W : World) : Prop :=
  MapG W bm (topL bm n) ∧ (∀ t : Nat, t < n → t ≠ x → MapG W (bm + 1 + t) (valL (nbr xs t))) ∧ MapG W (bm + 1 + x) (valL (nbr xs x) ++ [((y : Int), Value.int .i64 z)])
theorem half_of {n bm : Nat} {xs : List T3} {x y : Nat} {z : Int} {W W1 : World} (h : GraphAt n bm xs W) (hm : MapG W1 (bm + 1 + x) (valL (nbr xs x) ++ [((y : Int), Value.int .i64 z)])) (hg : W.grownBy W1 (some (bm + 1 + x))) : HalfAt n bm xs x y z W1 :=
  ⟨h.1.grown hg (by omega), fun t ht hne => (h.2 t ht).grown hg (by omega), hm⟩
theorem half_next {n bm : Nat} {xs : List T3} {j x y : Nat} {z : Int} {W W1 : World} (h : HalfAt n bm (xs.take j) x y z W) (hp : xs[j]? = some ⟨x, y, z⟩) (hxy : x < y)
    (hm : MapG W1 (bm + 1 + y) (valL (nbr (xs.take j) y) ++ [((x : Int), Value.int .i64 z)])) (hg : W.grownBy W1 (some (bm + 1 + y))) : GraphAt n bm (xs.take (j + 1)) W1 := by
  refine ⟨h.1.grown hg (by omega), fun t ht => ?_⟩
  rw [take_next hp, nbr_snoc]
  dsimp only
  by_cases e1 : t = x
  · subst e1
    rw [if_pos rfl, valL_snoc]
    exact h.2.2.grown hg (by omega)
  · rw [if_neg (by omega)]
    by_cases e2 : t = y
    · subst e2
      rw [if_pos rfl, valL_snoc]
      exact hm
    · rw [if_neg (by omega), List.append_nil]
      exact (h.2.1 t ht e1).grown hg (by omega)
theorem box3_new (w : World) (x y z : Int) (T : TypeId) : (w.alloc (.cells #[.int .i64 x, .int .i64 y, .int .i64 z] T)).cell? ⟨w.heap.size, 0, none⟩ = some (.int .i64 x) ∧ (w.alloc (.cells #[.int .i64 x, .int .i64 y, .int .i64 z] T)).cell? ⟨w.heap.size, 1, none⟩ = some (.int .i64 y) ∧ (w.alloc (.cells #[.int .i64 x, .int .i64 y, .int .i64 z] T)).cell? ⟨w.heap.size, 2, none⟩ = some (.int .i64 z) := by
  have hr : ∀ j, (w.alloc (.cells #[.int .i64 x, .int .i64 y, .int .i64 z] T)).cell? ⟨w.heap.size, j, none⟩ = (#[.int .i64 x, .int .i64 y, .int .i64 z] : Array Value)[j]? := fun j => cell_of_row _ _ j _ T (0, 0) (heap_alloc_new w _)
  exact ⟨hr 0, hr 1, hr 2⟩
theorem box3_grown {w w' : World} {r g : Nat} {x y z : Value} (h : w.cell? ⟨g, 0, none⟩ = some x ∧ w.cell? ⟨g, 1, none⟩ = some y ∧ w.cell? ⟨g, 2, none⟩ = some z) (hg : w.grownBy w' (some r)) (hlt : g < w.heap.size) (hne : r ≠ g) :
    w'.cell? ⟨g, 0, none⟩ = some x ∧ w'.cell? ⟨g, 1, none⟩ = some y ∧ w'.cell? ⟨g, 2, none⟩ = some z := by
  have hn : some r ≠ some g := fun e => hne (Option.some.inj e)
  exact ⟨by rw [grown_cell hg hlt hn]; exact h.1, by rw [grown_cell hg hlt hn]; exact h.2.1, by rw [grown_cell hg hlt hn]; exact h.2.2⟩
/-- How mapRoads ends. -/
def Mapped (n : Int) (xs : List T3) (w : World) (e : Ending) (w' : World) : Prop :=
  Below w.heap.size w w' ∧ ((RoadOk n xs ∧ ∃ (m bm : Nat), n = m ∧ e = .returned (.tuple #[.map (some bm), .bool true]) ∧ w.heap.size ≤ bm ∧ GraphAt m bm xs w') ∨ (¬ RoadOk n xs ∧ e = .returned (.tuple #[.map none, .bool false])))

set_option maxRecDepth 20000 in
set_option maxHeartbeats 6400000 in
theorem mapRoads_any (A : Option Addr) (n : Int) (len cap : Nat) (xs : List T3) (w : World) (h : SlE 3 enc3 w A len xs) (hn : len ≤ 16777216) :
    Calls Tryz.prog 51 #[.int .i64 n, .slice A len cap] w (Mapped n xs w) := by
  have H := Lib.hid h
  have hxl := h.len
  have HL := Lib.hid hxl
  clear h hxl
  by_cases hr : 1 ≤ n ∧ n ≤ 8
  rotate_left
  · have HN := Lib.hid (show ¬ RoadOk n xs from fun hB => hr ⟨hB.1, hB.2.1⟩)
    by_cases h1 : n < 1
    · clear hr
      go_enter Tryz.func51, Tryz.ntmps51
      go_wp2_with fail
      go_ret2
      exact ⟨Below.refl _ _, .inr ⟨HN.out, rfl⟩⟩
    · have h2 : 8 < n := by omega
      clear hr
      go_enter Tryz.func51, Tryz.ntmps51
      go_wp2_with fail
      go_ret2
      exact ⟨Below.refl _ _, .inr ⟨HN.out, rfl⟩⟩
  obtain ⟨hr1, hr2⟩ := hr
  obtain ⟨n, rfl⟩ : ∃ m : Nat, n = m := ⟨n.toNat, by omega⟩
  by_cases hm : len ≤ 16
  rotate_left
  · have hm' : 16 < (len : Int) := by omega
    have HN := Lib.hid (show ¬ RoadOk n xs from fun hB => hm (by have := hB.2.2.1; rw [HL.out] at this; exact this))
    go_enter Tryz.func51, Tryz.ntmps51
    go_wp2_with fail
    go_ret2
    exact ⟨Below.refl _ _, .inr ⟨HN.out, rfl⟩⟩
  have hm' : (len : Int) ≤ 16 := by omega
  have hmm := @run_makeMap Tryz.prog
  go_enter Tryz.func51, Tryz.ntmps51
  go_wp2_with fail
  go_loopw [7, 25] (fun _ i wr => ∃ k : Nat, k ≤ n ∧ i = .int .i64 k ∧ TopAt w.heap.size k wr ∧ Below w.heap.size w wr) (fun _ i _ => n - (intOf i).toNat)
  case atStart => exact ⟨0, by omega, rfl, topAt_new w, below_alloc (Below.refl _ _) _⟩
  case round =>
    obtain ⟨k, hk, rfl, htop, hbr⟩ := hrel
    have HT := Lib.hid htop
    have HB := Lib.hid hbr
    clear htop hbr
    by_cases hlt : k < n
    · have HK0 := Lib.hid (topAt_alloc HT.out)
      go_wp2_with (at_mapUpdate; go_loud (refine wp_updG _ rfl _ _ _ _ rfl _ _ Tryz.underlying88 Tryz.underlying3 w.heap.size (topL w.heap.size k) rfl HK0.out.1 (k : Int) rfl (fun h => by have := topL_key.1 h; omega) _ rfl ?_); intro w2 hm2 hg2 hs2; have HT2 := Lib.hid (topAt_next HT.out HK0.out hm2 hg2 hs2); have HB2 := Lib.hid ((below_alloc HB.out (.map #[] 0)).grown hg2 (below_alloc HB.out (.map #[] 0)).size (fun j hj => by injection hj with hj; omega)); clear hm2 hg2 hs2)
      go_roundw
      case rel => exact ⟨k + 1, by omega, by go_num, HT2.out, HB2.out⟩
      case measure => simp [intOf]; omega
    obtain rfl : n = k := by omega
    clear hlt hk
    have HG0 := Lib.hid (topAt_graph HT.out xs)
    go_wp2_with fail
    go_loopw [9, 10, 11, 34] (fun _ _ _ i wl => ∃ j : Nat, j ≤ len ∧ i = .int .i64 j ∧ RoadPre n (xs.take j) ∧ GraphAt n w.heap.size (xs.take j) wl ∧ Below w.heap.size w wl ∧ w.heap.size + n < wl.heap.size) (fun _ _ _ i _ => len - (intOf i).toNat)
    case atStart => exact ⟨0, by omega, rfl, pre_nil _ _, HG0.out.1, HB.out, HG0.out.2⟩
    case round =>
      obtain ⟨j, hj, rfl, hpre, hgr, hbl, hsz⟩ := hrel
      have HP := Lib.hid hpre
      have HG := Lib.hid hgr
      have HR := Lib.hid hbl
      clear hpre hgr hbl HT HB HG0
      by_cases hlt : j < len
      rotate_left
      · have hx : xs.take j = xs := List.take_of_length_le (by have := HL.out; omega)
        rw [hx] at HP HG
        clear hx
        have HOK := Lib.hid (show RoadOk n xs from ⟨hr1, hr2, by rw [HL.out]; exact hm, HP.out⟩)
        go_wp2_with fail
        go_ret2
        exact ⟨HR.out, .inl ⟨HOK.out, n, w.heap.size, rfl, rfl, Nat.le_refl _, HG.out⟩⟩
      obtain ⟨b, off, x, y, z, rfl, hbl, hx, hd, g0, g1, g2⟩ := at3 H.out HR.out hlt
      have HX := Lib.hid hx
      have HBX := Lib.hid (below_alloc HR.out (.cells #[.int .i64 x, .int .i64 y, .int .i64 z] 43))
      clear hd hx
      by_cases hok : OkR n ⟨x, y, z⟩
      rotate_left
      · have HN := Lib.hid (road_bad HX.out hok)
        unfold OkR at hok
        dsimp only at hok
        by_cases k1 : x < 0
        · clear hok
          go_wp2_with fail
          go_ret2
          exact ⟨HBX.out, .inr ⟨HN.out, rfl⟩⟩
        by_cases k2 : y ≤ x
        · clear hok
          go_wp2_with fail
          go_ret2
          exact ⟨HBX.out, .inr ⟨HN.out, rfl⟩⟩
        by_cases k3 : (n : Int) ≤ y
        · clear hok
          go_wp2_with fail
          go_ret2
          exact ⟨HBX.out, .inr ⟨HN.out, rfl⟩⟩
        by_cases k4 : z < 1
        · clear hok
          go_wp2_with fail
          go_ret2
          exact ⟨HBX.out, .inr ⟨HN.out, rfl⟩⟩
        have k5 : 99 < z := by omega
        clear hok
        go_wp2_with fail
        go_ret2
        exact ⟨HBX.out, .inr ⟨HN.out, rfl⟩⟩
      have HOK := Lib.hid hok
      unfold OkR at hok
      dsimp only at hok
      obtain ⟨x, rfl⟩ : ∃ i : Nat, x = i := ⟨x.toNat, by omega⟩
      obtain ⟨y, rfl⟩ : ∃ i : Nat, y = i := ⟨y.toNat, by omega⟩
      have k1 : ¬ (x : Int) < 0 := by omega
      have k2 : ¬ (y : Int) ≤ (x : Int) := by omega
      have k3 : ¬ (n : Int) ≤ (y : Int) := by omega
      have k4 : ¬ z < 1 := by omega
      have k5 : ¬ 99 < z := by omega
      have hxn : x < n := by omega
      have hyn : y < n := by omega
      have hxy : x < y := by omega
      clear hok
      have G0 := Lib.hid (HG.out.below (below_alloc (Below.refl wr.heap.size wr) (.cells #[.int .i64 x, .int .i64 y, .int .i64 z] 43)))
      have HKD := Lib.hid (show KeysD (valL (nbr (xs.take j) x)) by unfold KeysD; rw [valL_keys]; exact nbr_keysT HP.out x)
      by_cases htw : NoTwin xs j x y
      rotate_left
      · obtain ⟨i, q, hi, hq, hqa, hqb⟩ : ∃ i q, i < j ∧ xs[i]? = some q ∧ q.a = x ∧ q.b = y := by
          apply Classical.byContradiction
          intro hno
          exact htw fun i q hi hq hh => hno ⟨i, q, hi, hq, hh.1, hh.2⟩
        have HN := Lib.hid (road_dup (n := n) hi hq HX.out ⟨hqa, hqb⟩)
        obtain ⟨⟨v', c⟩, hv, hve⟩ := List.mem_map.1 ((nbr_twin (n := n) HP.out (show (x : Int) < y by omega)).2 ⟨i, q, hi, hq, hqa, hqb⟩)
        dsimp only at hve
        subst hve
        have HV := Lib.hid (valL_mem hv)
        clear htw hi hq hqa hqb hv
        go_wp2_with (first
          | (at_lookup; (refine wp_lookG _ rfl _ _ 88 _ rfl _ _ Tryz.underlying88 Tryz.underlying3 w.heap.size (topL w.heap.size n) rfl G0.out.1 (topL_D _ _) (x : Int) rfl _ (topL_mem hxn) ?_))
          | (at_lookup; (refine wp_lookG _ rfl _ _ 91 _ rfl _ _ Tryz.underlying91 Tryz.underlying3 (w.heap.size + 1 + x) (valL (nbr (xs.take j) x)) rfl (G0.out.2 x hxn) HKD.out (y : Int) rfl _ HV.out ?_)))
        go_ret2
        exact ⟨HBX.out, .inr ⟨HN.out, rfl⟩⟩
      have HM1 := Lib.hid (show ((y : Int)) ∉ (valL (nbr (xs.take j) x)).map (·.1) by rw [valL_keys]; exact nbr_fore HP.out (by omega) htw)
      have HM2 := Lib.hid (show ((x : Int)) ∉ (valL (nbr (xs.take j) y)).map (·.1) by rw [valL_keys]; exact nbr_back HP.out (by omega) htw)
      have HPN := Lib.hid (pre_next HP.out HX.out HOK.out htw)
      have HB0 := Lib.hid (box3_new wr x y z 43)
      have hws : wr.heap.size < (wr.alloc (.cells #[.int .i64 x, .int .i64 y, .int .i64 z] 43)).heap.size := by show _ < (wr.heap.push _).size; rw [Array.size_push]; omega
      have HWS := Lib.hid hws
      have e1 : w.heap.size + 1 + x ≠ wr.heap.size := by omega
      have e2 : w.heap.size + 1 + y ≠ wr.heap.size := by omega
      clear htw hws
      go_wp2_with (first
        | (at_lookup; (refine wp_lookG _ rfl _ _ 88 _ rfl _ _ Tryz.underlying88 Tryz.underlying3 w.heap.size (topL w.heap.size n) rfl G0.out.1 (topL_D _ _) (x : Int) rfl _ (topL_mem hxn) ?_))
        | (at_lookup; (refine wp_missG _ rfl _ _ 91 _ rfl _ _ Tryz.underlying91 Tryz.underlying3 (w.heap.size + 1 + x) (valL (nbr (xs.take j) x)) rfl (G0.out.2 x hxn) (y : Int) rfl HM1.out _ (zeroI _) ?_))
        | (at_lookup; (refine wp_lookG _ rfl _ _ 88 _ rfl _ _ Tryz.underlying88 Tryz.underlying3 w.heap.size (topL w.heap.size n) rfl HH1.out.1 (topL_D _ _) (y : Int) rfl _ (topL_mem hyn) ?_))
        | (at_mapUpdate; (refine wp_updG _ rfl _ _ _ 91 rfl _ _ Tryz.underlying91 Tryz.underlying3 (w.heap.size + 1 + x) (valL (nbr (xs.take j) x)) rfl (G0.out.2 x hxn) (y : Int) rfl HM1.out _ rfl ?_); intro w1 hm1 hg1 hs1; have HH1 := Lib.hid (half_of G0.out hm1 hg1); obtain ⟨c0, c1, c2⟩ := box3_grown HB0.out hg1 HWS.out e1; have HC1 := Lib.hid (And.intro c0 (And.intro c1 c2)); have HS1 := Lib.hid (Nat.lt_of_lt_of_le HWS.out (Nat.le_of_eq hs1.symm)); have HBW1 := Lib.hid (HBX.out.grown hg1 HBX.out.size (fun i hi => by injection hi with hi; omega)); clear hm1 hg1 hs1)
        | (at_mapUpdate; go_loud (refine wp_updG _ rfl _ _ _ _ rfl _ _ Tryz.underlying91 Tryz.underlying3 (w.heap.size + 1 + y) (valL (nbr (xs.take j) y)) rfl (HH1.out.2.1 y hyn (by omega)) (x : Int) rfl HM2.out _ rfl ?_); intro w2 hm2 hg2 hs2; have HG2 := Lib.hid (half_next HH1.out HX.out hxy hm2 hg2); have HBW2 := Lib.hid (HBW1.out.grown hg2 HBW1.out.size (fun i hi => by injection hi with hi; omega)); have HSZ := Lib.hid (Nat.lt_of_lt_of_le (Nat.lt_trans hsz HS1.out) (Nat.le_of_eq hs2.symm)); clear hm2 hg2 hs2))
      go_roundw
      case rel => exact ⟨j + 1, by omega, by go_num, HPN.out, HG2.out, HBW2.out, HSZ.out⟩
      case measure => simp [intOf]; omega
end Go.Proofs.YtgjllminidlolaaGreatDoor
/- Contracts: roads of the program: RoadsValid, RoadsDirect, has. -/
set_option linter.unusedVariables false
namespace Go.Proofs.YtgjllminidlolaaGreatDoor
open Go.RowKit Go.MapKept

theorem directV_edge {n : Int} {xs : List T3} (hok : RoadOk n xs) {a c w : Int} (h : Edge xs a c w) : directV n xs a c = w := by
  rcases fndR_spec hok a c with ⟨_, h1⟩ | ⟨j, p, h1, h2, h3, _⟩
  · exact absurd h (h1 w)
  · unfold directV dirV
    rw [if_pos ⟨hok, by rw [h1]; omega⟩, h1, Int.toNat_natCast, h2]
    exact edge_unique hok h3 h
theorem directV_none {n : Int} {xs : List T3} {a c : Int} (h : RoadOk n xs → ∀ w, ¬ Edge xs a c w) : directV n xs a c = -1 := by
  unfold directV
  by_cases hok : RoadOk n xs
  · rcases fndR_spec hok a c with ⟨h1, _⟩ | ⟨j, p, _, _, h3, _⟩
    · rw [if_neg (fun hh => by have := hh.2; omega)]
    · exact absurd h3 (h hok p.c)
  · rw [if_neg (fun hh => hok hh.1)]
theorem zeroM (w : World) : (zeroValue 91).run Tryz.prog w = .ok (.map none) w := by kernel_rfl
theorem look_none (k : Int) (w : World) : (Instr.lookup 91 (.map none) (.int .i64 k) true).run Tryz.prog w = .ok (.tuple #[.int .i64 0, .bool false]) w := by
  simp [Instr.lookup, run_underlying Tryz.underlying91, run_checkKey Tryz.underlying3 (k := .int .i64 k) rfl, run_findKey Tryz.underlying3 (show Instr.findNow (.int .i64) (.int .i64 k) [] 0 = some none from rfl), zeroI w, Result.andThen]

set_option maxRecDepth 20000 in
set_option maxHeartbeats 1600000 in
theorem implRoadsValid_any (A : Option Addr) (n : Int) (len cap : Nat) (xs : List T3) (w : World) (h : SlE 3 enc3 w A len xs) (hn : len ≤ 16777216) :
    Calls Tryz.prog 202 #[.int .i64 n, .slice A len cap] w (OnlyB (RoadOk n xs) w) := by
  have HM := Lib.hid (mapRoads_any A n len cap xs w h hn)
  clear h
  go_enter Tryz.func202, Tryz.ntmps202
  go_wp2_with fail
  refine HM.out.mono ?_
  rintro e w2 ⟨hb, ⟨hok, m, bm, -, rfl, -, -⟩ | ⟨hno, rfl⟩⟩
  · have HB := Lib.hid hb
    have HK := Lib.hid hok
    clear hb hok
    go_wp2_with fail
    go_ret
    exact onlyB_true HK.out HB.out
  · have HB := Lib.hid hb
    have HK := Lib.hid hno
    clear hb hno
    go_wp2_with fail
    go_ret
    exact onlyB_false HK.out HB.out

set_option maxRecDepth 20000 in
set_option maxHeartbeats 1600000 in
theorem mhas_any (n bm : Nat) (t : Int) (xs : List T3) (w : World) (h : GraphAt n bm xs w) :
    Calls Tryz.prog 57 #[.map (some bm), .int .i64 t] w (SameB (0 ≤ t ∧ t < n) w) := by
  have H := Lib.hid h
  clear h
  by_cases ht : 0 ≤ t ∧ t < n
  · obtain ⟨t, rfl⟩ : ∃ k : Nat, t = k := ⟨t.toNat, by omega⟩
    have htn : t < n := by omega
    have HT := Lib.hid ht
    clear ht
    go_enter Tryz.func57, Tryz.ntmps57
    go_wp2_with (at_lookup; (refine wp_lookG _ rfl _ _ 88 _ rfl _ _ Tryz.underlying88 Tryz.underlying3 bm (topL bm n) rfl H.out.1 (topL_D _ _) (t : Int) rfl _ (topL_mem htn) ?_))
    go_ret
    exact ⟨true, rfl, by simp [HT.out], rfl⟩
  · have HT := Lib.hid ht
    have HN := Lib.hid (show t ∉ (topL bm n).map (·.1) from fun h => ht (topL_key.1 h))
    clear ht
    go_enter Tryz.func57, Tryz.ntmps57
    go_wp2_with (at_lookup; (refine wp_missG _ rfl _ _ 88 _ rfl _ _ Tryz.underlying88 Tryz.underlying3 bm (topL bm n) rfl H.out.1 t rfl HN.out _ (zeroM _) ?_))
    go_ret
    exact ⟨false, rfl, by simp [HT.out], rfl⟩

set_option maxRecDepth 20000 in
set_option maxHeartbeats 3200000 in
theorem implRoadsDirect_any (A : Option Addr) (n a c : Int) (len cap : Nat) (xs : List T3) (w : World) (h : SlE 3 enc3 w A len xs) (hn : len ≤ 16777216) :
    Calls Tryz.prog 204 #[.int .i64 n, .slice A len cap, .int .i64 a, .int .i64 c] w (Only (.int .i64 (directV n xs a c)) w) := by
  have HM := Lib.hid (mapRoads_any A n len cap xs w h hn)
  have HV1 := Lib.hid (fun (hok : RoadOk n xs) (v : Int) (h : Edge xs a c v) => directV_edge hok h)
  have HV2 := Lib.hid (fun (h : RoadOk n xs → ∀ w, ¬ Edge xs a c w) => directV_none h)
  clear h
  generalize directV n xs a c = v at *
  have hln := look_none c
  go_enter Tryz.func204, Tryz.ntmps204
  go_wp2_with fail
  refine HM.out.mono ?_
  rintro e w2 ⟨hb, ⟨hok, m, bm, rfl, rfl, -, hg⟩ | ⟨hno, rfl⟩⟩
  rotate_left
  · have HB := Lib.hid hb
    have HE := Lib.hid (HV2.out (fun h => absurd h hno))
    clear hb hno
    go_wp2_with fail
    go_ret
    exact ⟨ret_int HE.out.symm, HB.out⟩
  have HB := Lib.hid hb
  have HG := Lib.hid hg
  have HK := Lib.hid hok
  clear hb hg hok
  by_cases ha : 0 ≤ a ∧ a < m
  rotate_left
  · have HN := Lib.hid (show a ∉ (topL bm m).map (·.1) from fun h => ha (topL_key.1 h))
    have HE := Lib.hid (HV2.out (fun h w he => ha (by have := edge_bd h he; omega)))
    clear ha
    go_wp2_with (at_lookup; (refine wp_missG _ rfl _ _ 88 _ rfl _ _ Tryz.underlying88 Tryz.underlying3 bm (topL bm m) rfl HG.out.1 a rfl HN.out _ (zeroM _) ?_))
    go_ret
    exact ⟨ret_int HE.out.symm, HB.out⟩
  obtain ⟨a, rfl⟩ : ∃ k : Nat, a = k := ⟨a.toNat, by omega⟩
  have ham : a < m := by omega
  clear ha
  by_cases hc : c ∈ (nbr xs a).map (·.1)
  · obtain ⟨⟨c', u⟩, hu, hcc⟩ := List.mem_map.1 hc
    dsimp only at hcc
    subst hcc
    have HE := Lib.hid (HV1.out HK.out u (nbr_edge hu))
    have HU := Lib.hid (valL_mem hu)
    have HD := Lib.hid (show KeysD (valL (nbr xs a)) by unfold KeysD; rw [valL_keys]; have := nbr_keysT (n := m) (xs := xs) (j := xs.length) (by rw [List.take_length]; exact HK.out.2.2.2) a; rw [List.take_length] at this; exact this)
    clear hc hu
    go_wp2_with (first
      | (at_lookup; (refine wp_lookG _ rfl _ _ 88 _ rfl _ _ Tryz.underlying88 Tryz.underlying3 bm (topL bm m) rfl HG.out.1 (topL_D _ _) (a : Int) rfl _ (topL_mem ham) ?_))
      | (at_lookup; (refine wp_lookG _ rfl _ _ 91 _ rfl _ _ Tryz.underlying91 Tryz.underlying3 (bm + 1 + a) (valL (nbr xs a)) rfl (HG.out.2 a ham) HD.out _ rfl _ HU.out ?_)))
    go_ret
    exact ⟨ret_int HE.out.symm, HB.out⟩
  · have HN := Lib.hid (show c ∉ (valL (nbr xs a)).map (·.1) by rw [valL_keys]; exact hc)
    have HE := Lib.hid (HV2.out (fun h w he => hc (List.mem_map.2 ⟨_, edge_nbr HK.out.2.2.2 he, rfl⟩)))
    clear hc
    go_wp2_with (first
      | (at_lookup; (refine wp_lookG _ rfl _ _ 88 _ rfl _ _ Tryz.underlying88 Tryz.underlying3 bm (topL bm m) rfl HG.out.1 (topL_D _ _) (a : Int) rfl _ (topL_mem ham) ?_))
      | (at_lookup; (refine wp_missG _ rfl _ _ 91 _ rfl _ _ Tryz.underlying91 Tryz.underlying3 (bm + 1 + a) (valL (nbr xs a)) rfl (HG.out.2 a ham) c rfl HN.out _ (zeroI _) ?_)))
    go_ret
    exact ⟨ret_int HE.out.symm, HB.out⟩
end Go.Proofs.YtgjllminidlolaaGreatDoor
/- Contracts: slices.Grow of nil and slices.Concat, at []impl.Road. -/
set_option linter.unusedVariables false
namespace Go.Proofs.YtgjllminidlolaaGreatDoor
open Go.RowKit

theorem info_conR : (Tryz.prog.info? 43).map (fun i => (i.zero, i.size, i.bytes)) = some (some (.agg #[.int .i64 0, .int .i64 0, .int .i64 0]), 3, 24) := by kernel_rfl

set_option maxRecDepth 20000 in
set_option maxHeartbeats 800000 in
theorem growR_any (n : Nat) (w : World) (hn : n ≤ 16777216) :
    Calls Tryz.prog 220 #[.slice none 0 0, .int .i64 n] w (RetOwn 3 enc3 43 [] w) := by
  obtain ⟨i0, hi, hz0, hz1, hz2⟩ := info_parts info_conR
  have HI := Lib.hid hi
  have HZ0 := Lib.hid hz0
  have HZ1 := Lib.hid hz1
  have HZ2 := Lib.hid hz2
  clear hi hz0 hz1 hz2
  by_cases h0 : 0 < n
  · have h0' : 0 < (n : Int) := by omega
    go_enter Tryz.func220, Tryz.ntmps220
    go_wp2_with (at_builtin; refine Lib.wpList_append_run _ rfl _ _ _ _ rfl _ _ rfl rfl _ _ (Lib.run_append_nil_zeros w 38 3 _ 43 i0 _ .i64 .i64 Tryz.underlying38 Tryz.underlying3 HI.out HZ0.out n h0 (by rw [HZ1.out]; omega) (by omega) (by rw [HZ2.out]; omega)) ?_)
    go_ret
    exact ⟨_, rfl, World.ownsRow_made w.drew _ _ (Nat.le_refl _) (grownCap_le_maxLen w n 0 43 (by unfold maxLen; omega)) (by
      have hge := grownCap_ge w n 0 43
      simp only [Array.size_append, size_zeroCells]
      show n * 3 + (grownCap w n 0 43 - n) * 3 = _
      omega), below_alloc (below_drew (Below.refl _ _)) _⟩
  · have e : n = 0 := by omega
    subst e
    go_enter Tryz.func220, Tryz.ntmps220
    go_wp2
    go_ret
    exact ⟨_, rfl, World.ownsRow_nil _ _ _ _, Below.refl _ _⟩

set_option maxHeartbeats 800000 in
theorem concatR_any {A : Option Addr} {m cap : Nat} {ss : List (Sn T3)} {w : World} (h : SlS 3 enc3 w A m ss) (hm : m ≤ 1024) (hl : snLen ss ≤ 4194304) :
    Calls Tryz.prog 203 #[.slice A m cap] w (RetOwn 3 enc3 43 (snAll ss) w) := by
  have H := Lib.hid h
  clear h
  go_enter Tryz.func203, Tryz.ntmps203
  go_wp2
  go_loop [3, 11, 5] (fun z i _ => ∃ j : Nat, j ≤ m ∧ i = .int .i64 j ∧ z = .int .i64 (snLen (ss.take j))) (fun _ i _ => m - (intOf i).toNat)
  case atStart => exact ⟨0, by omega, rfl, rfl⟩
  case round =>
    obtain ⟨j, hj, rfl, rfl⟩ := hrel
    have ht := snLen_take ss j
    by_cases hjm : j < m
    · obtain ⟨b, off, s, rfl, hbl, hx, hd, hc⟩ := H.out.1.at_ hjm
      have hc0 := hc 0 _ rfl
      simp only [Nat.mul_one, Nat.add_zero] at hc0
      have HX := Lib.hid (snLen_next hx)
      have ht1 := snLen_take ss (j + 1)
      rw [HX.out] at ht1
      obtain ⟨sA, sn, sc, sxs⟩ := s
      simp only at hc0 ht1 HX
      clear hx hd hc
      generalize snLen (ss.take j) = z at *
      go_wp2
      go_round
      case rel => exact ⟨j + 1, by omega, by go_num, by rw [HX.out]; go_num⟩
      case measure => simp [intOf]; omega
    · have e : j = m := by omega
      subst e
      have hx : ss.take j = ss := List.take_of_length_le (by have := H.out.1.len; omega)
      rw [hx]
      clear hx ht
      have HL := Lib.hid hl
      clear hl
      generalize hz : snLen ss = z
      have HZ := Lib.hid hz
      have hzl : z ≤ 4194304 := by rw [← hz]; exact HL.out
      clear hz
      go_wp2_with (go_at_call 220; refine (growR_any z w (by omega)).mono ?_; rintro e w1 ⟨v, rfl, hown, hb1⟩; have HO := Lib.hid hown; have HB := Lib.hid hb1; clear hown hb1)
      go_loopw [6, 27, 8] (fun s i _ wr => ∃ q : Nat, q ≤ j ∧ i = .int .i64 q ∧ OwnE 3 enc3 43 w.heap.size wr s (snAll (ss.take q)) ∧ Below w.heap.size w wr) (fun _ i _ _ => j - (intOf i).toNat)
      case atStart => exact ⟨0, by omega, rfl, HO.out, HB.out⟩
      case round =>
        obtain ⟨q, hq, rfl, hown, hbr⟩ := hrel
        have HR := Lib.hid hbr
        have HW := Lib.hid hown
        have hbs := hbr.size
        clear hown hbr
        by_cases hqm : q < j
        · obtain ⟨b, off, s, rfl, hbl, hx, hd, hc⟩ := (H.out.1.below HR.out).at_ hqm
          have hc0 := hc 0 _ rfl
          simp only [Nat.mul_one, Nat.add_zero] at hc0
          have HX := Lib.hid (snAll_next hx)
          have HS := Lib.hid ((H.out.2 s (mem_at hx)).below HR.out)
          have hlen : (snAll (ss.take q)).length + s.n ≤ 4194304 := by
            have h1 := snLen_next hx
            have h2 := snLen_take ss (q + 1)
            have h3 : SlS 3 enc3 w (some ⟨b, off, none⟩) (ss.take q).length (ss.take q) := ⟨⟨rfl, fun hn => by
              obtain ⟨b', off', hA, hlt, hcc⟩ := H.out.1.2 (by have := List.length_take_le q ss; omega)
              exact ⟨b', off', hA, hlt, fun jj p hp => hcc jj p (by rw [List.getElem?_take] at hp; split at hp; exact hp; cases hp)⟩⟩, fun s' hs' => H.out.2 s' (mem_take_of hs')⟩
            rw [h3.all_len]
            have := HL.out
            omega
          obtain ⟨sA, sn, sc, sxs⟩ := s
          simp only at hc0 HX HS hlen
          clear hx hd hc
          go_wp2_with (at_builtin; refine wpList_cat (bytes := 24) enc3_len enc3_one (by omega) rfl _ _ _ rfl Tryz.underlying38 info_conR rfl _ (snAll (ss.take q)) rfl HW.out rfl HS.out (by omega) (by unfold maxLen; omega) hbs ?_; intro v' w' hown' hg'; have HO' := Lib.hid hown'; have HB' := Lib.hid (below_grown HR.out hg' HW.out (Nat.le_refl _)); clear hown' hg')
          go_roundw
          case rel => exact ⟨q + 1, by omega, by go_num, by rw [HX.out]; exact HO'.out, HB'.out⟩
          case measure => simp [intOf]; omega
        · have hx : ss.take q = ss := List.take_of_length_le (by have := H.out.1.len; omega)
          rw [hx] at HW
          clear hx
          go_wp2
          go_ret
          exact ⟨_, rfl, HW.out, HR.out⟩
end Go.Proofs.YtgjllminidlolaaGreatDoor
