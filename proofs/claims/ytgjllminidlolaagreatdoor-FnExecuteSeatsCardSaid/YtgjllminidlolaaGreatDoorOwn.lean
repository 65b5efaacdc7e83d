/- Slices that a call owns, as lists; append as a step of a walk. -/
import Derived.Test.YtgjllminidlolaaGreatDoorBase
import Derived.Deep.AppendLies
import Derived.Laws.AppendOwnNone
set_option linter.unusedVariables false
namespace Go.Proofs.YtgjllminidlolaaGreatDoor
open Go.RowKit

/-- The slice value v is the call's own (blocks from base on) and holds the list xs. -/
def OwnE {α : Type} (k : Nat) (enc : α → List Value) (ty base : Nat) (w : World) (v : Value) (xs : List α) : Prop :=
  w.ownsRow base ty k v xs.length (xs.flatMap enc)
/-- How a call ends: it returns a slice of its own that holds xs; what was in memory is as it was. -/
def RetOwn {α : Type} (k : Nat) (enc : α → List Value) (ty : Nat) (xs : List α) (w : World) (e : Ending) (w' : World) : Prop :=
  ∃ v, e = .returned v ∧ OwnE k enc ty w.heap.size w' v xs ∧ Below w.heap.size w w'
/-- The same with a bool beside it. -/
def RetOwnB {α : Type} (k : Nat) (enc : α → List Value) (ty : Nat) (xs : List α) (b : Bool) (w : World) (e : Ending) (w' : World) : Prop :=
  ∃ v, e = .returned (.tuple #[v, .bool b]) ∧ OwnE k enc ty w.heap.size w' v xs ∧ Below w.heap.size w w'

section
variable {α : Type} {k ty base : Nat} {enc : α → List Value} {w w' : World} {v : Value} {xs : List α}
theorem OwnE.sl (hk : ∀ x, (enc x).length = k) (h : OwnE k enc ty base w v xs) : ∃ A c, v = .slice A xs.length c ∧ SlE k enc w A xs.length xs :=
  sl_of_own hk h rfl
theorem OwnE.below {B : Nat} (h : OwnE k enc ty base w v xs) (hb : Below B w w') (hB : w.heap.size ≤ B) : OwnE k enc ty base w' v xs :=
  h.kept (row := none) ⟨hb.os, hb.tape, hb.output, hb.size, fun j hj _ => hb.block j (by omega)⟩ (by cases v.ownBlock <;> simp)
theorem OwnE.alloc (h : OwnE k enc ty base w v xs) (o : Obj) : OwnE k enc ty base (w.alloc o) v xs := World.ownsRow.alloc h o
theorem OwnE.drew (h : OwnE k enc ty base w v xs) : OwnE k enc ty base w.drew v xs := h
theorem OwnE.lt (h : OwnE k enc ty base w v xs) : ∀ j, v.ownBlock = some j → base ≤ j ∧ j < w.heap.size := World.ownsRow.lt h
theorem OwnE.base_le {base' : Nat} (h : OwnE k enc ty base w v xs) (hb : base' ≤ base) : OwnE k enc ty base' w v xs := by
  refine ⟨h.1, ?_⟩
  rcases h.2 with h2 | ⟨g, cap, cur, hv, hg, r⟩
  · exact .inl h2
  · exact .inr ⟨g, cap, cur, hv, by omega, r⟩
/-- A new block is the call's own. -/
theorem own_new (w : World) (ty base : Nat) (hb : base ≤ w.heap.size) (hk : ∀ x : α, (enc x).length = k) (xs : List α) (cs : Array Value) (hcs : cs.toList = xs.flatMap enc) (hm : xs.length ≤ maxLen) {n : Nat} (hn : xs.length = n) :
    OwnE k enc ty base (w.alloc (.cells cs ty)) (.slice (some ⟨w.heap.size, 0, none⟩) n n) xs := by
  subst hn
  have hs : cs.size = xs.length * k := by rw [← Array.length_toList, hcs, flat_len hk]
  refine ⟨flat_len hk xs, .inr ⟨w.heap.size, xs.length, cs, rfl, hb, heap_alloc_new w _, Nat.le_refl _, hm, hs, ?_⟩⟩
  rw [← hcs, ← hs, ← Array.length_toList, List.take_length]
theorem own_new' (w : World) (ty base : Nat) (hb : base ≤ w.heap.size) (hk : ∀ x : α, (enc x).length = k) (xs : List α) (cs : Array Value) (hcs : cs.toList = xs.flatMap enc) (hm : xs.length ≤ maxLen) {n : Nat} (hn : xs.length = n) {g : Nat} (hg : g = w.heap.size) :
    OwnE k enc ty base (w.alloc (.cells cs ty)) (.slice (some ⟨g, 0, none⟩) n n) xs := by
  subst hg
  exact own_new w ty base hb hk xs cs hcs hm hn
/-- A new block reads as a list. -/
theorem slE_new (w : World) (ty : Nat) (hk : ∀ x : α, (enc x).length = k) (xs : List α) (cs : Array Value) (hcs : cs.toList = xs.flatMap enc) (hm : xs.length ≤ maxLen) {n : Nat} (hn : xs.length = n) {g : Nat} (hg : g = w.heap.size) :
    SlE k enc (w.alloc (.cells cs ty)) (some ⟨g, 0, none⟩) n xs := by
  obtain ⟨A, c, hv, h⟩ := sl_of_own hk (own_new' w ty 0 (Nat.zero_le _) hk xs cs hcs hm hn hg) rfl
  injection hv with h1 h2 h3
  subst h1 h2
  exact h
/-- What was read stays where another row is written. -/
theorem SlE.grown {b off n : Nat} {row : Option Nat} (h : SlE k enc w (some ⟨b, off, none⟩) n xs) (hg : w.grownBy w' row) (hne : row ≠ some b) : SlE k enc w' (some ⟨b, off, none⟩) n xs :=
  ⟨h.1, fun hn => by
    obtain ⟨b', off', hA, hlt, hc⟩ := h.2 hn
    injection hA with hA
    injection hA with h1 h2
    subst h1 h2
    exact ⟨b, off, rfl, Nat.lt_of_lt_of_le hlt hg.size, fun j p hj i v hv => hg.cell (hc j p hj i v hv) (fun e => hne e.symm)⟩⟩
end

/-- append(v, x): x has just been laid in a block of its own. -/
theorem wpList_push {P : Program} {α : Type} {ops : Array Oper} {rest : List Oper} {o : Oper} {a : Act} {Q : Exit → Act → World → Prop} {W : World}
    (k bytes ty : Nat) (enc : α → List Value) (hk : ∀ x, (enc x).length = k) (h1 : ∀ x, ∀ u ∈ enc x, u.oneCell' = true) (hk0 : 0 < k) (x : α) (cs : Array Value) (tb : TypeId) (hcs : cs.toList = enc x)
    (hgd : o.guard = none) (s y : Operand) (t : TypeId) (ho : o.op = .call { callee := .builtin .append, args := #[s, y], argTypes := #[t, t] })
    (ht : P.underlying t = some (.slice ty)) {z : Value} (hinfo : (P.info? ty).map (fun i => (i.zero, i.size, i.bytes)) = some (some z, k, bytes)) (hz : z.cells.size = k)
    (base : Nat) (v : Value) (xs : List α) (hs : a.eval s = v) {g : Nat} (hy : a.eval y = .slice (some ⟨g, 0, none⟩) 1 1) (hg : g = W.heap.size) (hown : OwnE k enc ty base W v xs)
    (hbytes : (xs.length + 1) * bytes ≤ 140737488355328) (h63 : xs.length + 1 ≤ maxLen) (hbase : base ≤ W.heap.size)
    (h : ∀ v' w', OwnE k enc ty base w' v' (xs ++ [x]) → W.grownBy w' v.ownBlock → wpList P ops Q rest (a.put o.dst v') w') :
    wpList P ops Q (o :: rest) a (W.alloc (.cells cs tb)) := by
  subst hg
  obtain ⟨i0, hi, hz0, hz1, hz2⟩ := info_parts hinfo
  refine wpList_append_own _ hgd s y t ho base ty i0 z k bytes ht hi hz0 hz1 hz2 hz hk0 v xs.length (xs.flatMap enc) hs (World.ownsRow.alloc hown _) ⟨W.heap.size, 0, none⟩ 1 1 (enc x) hy (by rw [hk]; omega) ?_ (h1 x) h63 hbytes (by simp; omega) ?_
  · intro j u hj
    have : (cs.toList)[j]? = some u := by rw [hcs]; exact hj
    exact World.news_of_block (heap_alloc_new W _) j u this
  · intro v' w' hown' hg _
    refine h v' w' ?_ ⟨hg.os, hg.tape, hg.output, Nat.le_trans (by simp) hg.size, fun j hj hne => (hg.block j (by simp; omega) hne).trans (Below.heap_alloc W _ j hj)⟩
    have e : (xs ++ [x]).flatMap enc = xs.flatMap enc ++ enc x := by simp
    unfold OwnE
    rw [e, List.length_append]
    exact hown'

/-- What an append to a row of the call's own leaves of old memory. -/
theorem below_grown {w0 W w' : World} {v : Value} {α : Type} {k ty base : Nat} {enc : α → List Value} {xs : List α} (hb : Below w0.heap.size w0 W) (hg : W.grownBy w' v.ownBlock)
    (hown : OwnE k enc ty base W v xs) (hbase : w0.heap.size ≤ base) : Below w0.heap.size w0 w' :=
  hb.grown hg hb.size (fun j hj => Nat.le_trans hbase (hown.lt j hj).1)
theorem OwnE.frozen {α : Type} {k ty base : Nat} {enc : α → List Value} {w : World} {g n c : Nat} {xs : List α} (h : OwnE k enc ty base w (.slice (some ⟨g, 0, none⟩) n c) xs) (j : Nat) : w.frozen? ⟨g, j, none⟩ = false := by
  rcases h.2 with ⟨h', _⟩ | ⟨g', cap', cur, h', _, hg, _⟩
  · simp at h'
  · simp only [Value.slice.injEq, Option.some.injEq, Addr.mk.injEq, and_true] at h'
    obtain ⟨rfl, rfl, rfl⟩ := h'
    exact frozen_of_row w g j cur ty hg
theorem OwnE.slc {α : Type} {k ty base : Nat} {enc : α → List Value} {w : World} {v : Value} {xs : List α} (hk : ∀ x, (enc x).length = k) (h : OwnE k enc ty base w v xs) {n : Nat} (hn : xs.length = n) :
    ∃ A c, v = .slice A n c ∧ SlE k enc w A n xs ∧ n ≤ c := by
  subst hn
  obtain ⟨A, c, rfl, hs⟩ := h.sl hk
  refine ⟨A, c, rfl, hs, ?_⟩
  rcases h.2 with ⟨hv, h0⟩ | ⟨g, cap, cur, hv, _, _, hnc, _⟩
  · omega
  · injection hv with h1 h2 h3
    omega
theorem sl_of_own_at {α : Type} {k ty base : Nat} {enc : α → List Value} {w : World} {A : Option Addr} {n c : Nat} {xs : List α} (hk : ∀ x, (enc x).length = k) (h : OwnE k enc ty base w (.slice A n c) xs) (hn : xs.length = n) : SlE k enc w A n xs := by
  obtain ⟨A', c', hv, hs, _⟩ := h.slc hk hn
  injection hv with h1 h2 h3
  subst h1
  exact hs
theorem OwnE.shrink {α : Type} {k ty base : Nat} {enc : α → List Value} (hk : ∀ x, (enc x).length = k) {w : World} {g n c m : Nat} {xs : List α} (h : OwnE k enc ty base w (.slice (some ⟨g, 0, none⟩) n c) xs) (hn : xs.length = n) (hm : m ≤ n) :
    OwnE k enc ty base w (.slice (some ⟨g, 0, none⟩) m c) (xs.take m) := by
  rcases h.2 with ⟨h', _⟩ | ⟨g', cap', cur, h', hb, hg, hnc, hcm, hcs, htake⟩
  · simp at h'
  · injection h' with e1 e2 e3
    injection e1 with e1
    injection e1 with e1
    subst e1 e3
    have hl : (xs.take m).length = m := by rw [List.length_take]; omega
    refine ⟨by rw [flat_len hk], .inr ⟨g, c, cur, by rw [hl], hb, hg, by omega, hcm, hcs, ?_⟩⟩
    rw [hl]
    have e : xs.flatMap enc = (xs.take m).flatMap enc ++ (xs.drop m).flatMap enc := by rw [← List.flatMap_append, List.take_append_drop]
    have h1 : (cur.toList.take (xs.length * k)).take (m * k) = cur.toList.take (m * k) := by
      rw [List.take_take, Nat.min_eq_left (Nat.mul_le_mul_right k (by omega))]
    rw [← h1, htake, e, List.take_left' (by rw [flat_len hk, hl])]
theorem OwnE.spare {α : Type} {k ty base : Nat} {enc : α → List Value} {w : World} {g n c : Nat} {xs : List α} (h : OwnE k enc ty base w (.slice (some ⟨g, 0, none⟩) n c) xs) {j : Nat} (hj : j < c * k) : ∃ u, w.cell? ⟨g, j, none⟩ = some u := by
  rcases h.2 with ⟨h', _⟩ | ⟨g', cap', cur, h', hb, hg, hnc, hcm, hcs, htake⟩
  · simp at h'
  · injection h' with e1 e2 e3
    injection e1 with e1
    injection e1 with e1
    subst e1 e3
    exact ⟨cur[j]'(by rw [hcs]; exact hj), by rw [cell_of_row w g j cur ty (0, 0) hg]; exact Array.getElem?_eq_getElem _⟩
theorem OwnE.beyond {α : Type} {k ty base : Nat} {enc : α → List Value} (hk : ∀ x, (enc x).length = k) {w : World} {g n c : Nat} {xs : List α} (h : OwnE k enc ty base w (.slice (some ⟨g, 0, none⟩) n c) xs) (hn : xs.length = n) {j : Nat} (hj : n * k ≤ j) (u : Value) :
    OwnE k enc ty base (w.setCell ⟨g, j, none⟩ u) (.slice (some ⟨g, 0, none⟩) n c) xs ∧ w.grownBy (w.setCell ⟨g, j, none⟩ u) (some g) := by
  subst hn
  have h1 := World.ownsRow.stored h j u
  refine ⟨?_, h1.2⟩
  have h2 := h1.1
  rw [List.set_eq_of_length_le (by rw [flat_len hk]; exact hj)] at h2
  exact h2
/-- Two owned slices lie apart. -/
theorem own_sep {v v' : Value} {a b c d : Nat} (h : ∀ j, v.ownBlock = some j → a ≤ j ∧ j < b) (h' : ∀ j, v'.ownBlock = some j → c ≤ j ∧ j < d) (hbc : b ≤ c ∨ d ≤ a) : v.ownBlock = none ∨ v.ownBlock ≠ v'.ownBlock := by
  cases hv : v.ownBlock with
  | none => exact .inl rfl
  | some j =>
    refine .inr fun e => ?_
    have h1 := h j hv
    have h2 := h' j e.symm
    omega
theorem OwnE.apart {α : Type} {k ty base : Nat} {enc : α → List Value} {w w' : World} {v : Value} {row : Option Nat} {xs : List α} (h : OwnE k enc ty base w v xs) (hg : w.grownBy w' row) (hne : v.ownBlock = none ∨ v.ownBlock ≠ row) : OwnE k enc ty base w' v xs :=
  World.ownsRow.kept h hg hne
/-- Three stores write one element of a row of three-cell structs. -/
theorem flat3_set : ∀ (xs : List T3) (j : Nat) (p : T3), j < xs.length →
    (((xs.flatMap enc3).set (j * 3) (.int .i64 p.a)).set (j * 3 + 1) (.int .i64 p.b)).set (j * 3 + 2) (.int .i64 p.c) = (xs.set j p).flatMap enc3
  | [], _, _, h => absurd h (by simp)
  | x :: xs, 0, p, _ => by simp [enc3]
  | x :: xs, j + 1, p, h => by
    have ih := flat3_set xs j p (by simpa using h)
    have e0 : (j + 1) * 3 = j * 3 + 1 + 1 + 1 := by omega
    simp only [List.flatMap_cons, List.set_cons_succ, ← ih, enc3, List.cons_append, List.nil_append, e0]
theorem own3_set {w : World} {base ty g cap n : Nat} {xs : List T3} (h : OwnE 3 enc3 ty base w (.slice (some ⟨g, 0, none⟩) n cap) xs) (hn : xs.length = n) {j : Nat} (hj : j < n) (x y z : Int) :
    OwnE 3 enc3 ty base (((w.setCell ⟨g, j * 3, none⟩ (.int .i64 x)).setCell ⟨g, j * 3 + 1, none⟩ (.int .i64 y)).setCell ⟨g, j * 3 + 2, none⟩ (.int .i64 z)) (.slice (some ⟨g, 0, none⟩) n cap) (xs.set j ⟨x, y, z⟩) ∧
      w.grownBy (((w.setCell ⟨g, j * 3, none⟩ (.int .i64 x)).setCell ⟨g, j * 3 + 1, none⟩ (.int .i64 y)).setCell ⟨g, j * 3 + 2, none⟩ (.int .i64 z)) (some g) := by
  subst hn
  have h1 := World.ownsRow.stored h (j * 3) (.int .i64 x)
  have h2 := World.ownsRow.stored h1.1 (j * 3 + 1) (.int .i64 y)
  have h3 := World.ownsRow.stored h2.1 (j * 3 + 2) (.int .i64 z)
  have hs : ∀ {a b c : World} {r : Option Nat}, a.grownBy b r → b.grownBy c r → a.grownBy c r := fun h k =>
    ⟨k.os.trans h.os, k.tape.trans h.tape, k.output.trans h.output, Nat.le_trans h.size k.size, fun i hi hr => (k.block i (Nat.lt_of_lt_of_le hi h.size) hr).trans (h.block i hi hr)⟩
  refine ⟨?_, hs (hs h1.2 h2.2) h3.2⟩
  unfold OwnE
  rw [List.length_set, ← flat3_set xs j ⟨x, y, z⟩ hj]
  exact h3.1
theorem flat1_set : ∀ (xs : List Int) (j : Nat) (p : Int), (xs.flatMap encI).set j (.int .i64 p) = (xs.set j p).flatMap encI
  | [], _, _ => by simp
  | x :: xs, 0, p => by simp [encI]
  | x :: xs, j + 1, p => by
    have ih := flat1_set xs j p
    simp only [List.flatMap_cons, List.set_cons_succ, ← ih, encI, List.cons_append, List.nil_append]
theorem own1_set {w : World} {base ty g cap n : Nat} {xs : List Int} (h : OwnE 1 encI ty base w (.slice (some ⟨g, 0, none⟩) n cap) xs) (hn : xs.length = n) (j : Nat) (x : Int) :
    OwnE 1 encI ty base (w.setCell ⟨g, j, none⟩ (.int .i64 x)) (.slice (some ⟨g, 0, none⟩) n cap) (xs.set j x) ∧ w.grownBy (w.setCell ⟨g, j, none⟩ (.int .i64 x)) (some g) := by
  subst hn
  have h1 := World.ownsRow.stored h j (.int .i64 x)
  refine ⟨?_, h1.2⟩
  unfold OwnE
  rw [List.length_set, ← flat1_set]
  exact h1.1
theorem grown_trans {a b c : World} {r : Option Nat} (h : a.grownBy b r) (k : b.grownBy c r) : a.grownBy c r :=
  ⟨k.os.trans h.os, k.tape.trans h.tape, k.output.trans h.output, Nat.le_trans h.size k.size, fun i hi hr => (k.block i (Nat.lt_of_lt_of_le hi h.size) hr).trans (h.block i hi hr)⟩
/-- Where the cells of an owned slice lie, and that they may be written. -/
theorem OwnE.form {α : Type} {k ty base : Nat} {enc : α → List Value} {w : World} {A : Option Addr} {n c : Nat} {xs : List α} (h : OwnE k enc ty base w (.slice A n c) xs) (hn : 0 < xs.length) :
    ∃ g, A = some ⟨g, 0, none⟩ ∧ n = xs.length ∧ base ≤ g ∧ g < w.heap.size ∧ ∀ j, w.frozen? ⟨g, j, none⟩ = false := by
  obtain ⟨g, cap, hv, hb, hg⟩ := World.ownsRow.form h hn
  injection hv with h1 h2 h3
  subst h1 h2
  exact ⟨g, rfl, rfl, hb, hg, fun j => h.frozen j⟩
theorem OwnE.cell {α : Type} {k ty base : Nat} {enc : α → List Value} (hk : ∀ x, (enc x).length = k) {w : World} {g c n : Nat} {xs : List α} (h : OwnE k enc ty base w (.slice (some ⟨g, 0, none⟩) n c) xs)
    {j : Nat} {p : α} (hp : xs[j]? = some p) {i : Nat} {u : Value} (hu : (enc p)[i]? = some u) : w.cell? ⟨g, j * k + i, none⟩ = some u := by
  have := World.ownsRow.cells h (g := g) rfl (j * k + i) u (flat_at hk xs j p hp i u hu)
  rw [Addr.add] at this
  split at this
  · rename_i h0; rw [h0]; exact this
  · simpa using this
theorem OwnE.cell3 {ty base : Nat} {w : World} {g c n : Nat} {xs : List T3} (h : OwnE 3 enc3 ty base w (.slice (some ⟨g, 0, none⟩) n c) xs) {j : Nat} {x y z : Int} (hp : xs[j]? = some ⟨x, y, z⟩) :
    w.cell? ⟨g, j * 3, none⟩ = some (.int .i64 x) ∧ w.cell? ⟨g, j * 3 + 1, none⟩ = some (.int .i64 y) ∧ w.cell? ⟨g, j * 3 + 2, none⟩ = some (.int .i64 z) :=
  ⟨OwnE.cell enc3_len h hp (i := 0) rfl, OwnE.cell enc3_len h hp (i := 1) rfl, OwnE.cell enc3_len h hp (i := 2) rfl⟩
theorem OwnE.cell1 {ty base : Nat} {w : World} {g c n : Nat} {xs : List Int} (h : OwnE 1 encI ty base w (.slice (some ⟨g, 0, none⟩) n c) xs) {j : Nat} {x : Int} (hp : xs[j]? = some x) :
    w.cell? ⟨g, j, none⟩ = some (.int .i64 x) := by
  have := OwnE.cell encI_len h hp (i := 0) rfl
  simpa using this
/-- make([]T, n), whatever T. -/
theorem run_make_rowN {P : Program} (t e : TypeId) (z : Value) (k bytes : Nat) (ht : P.underlying t = some (.slice e)) (hinfo : (P.info? e).map (fun i => (i.zero, i.size, i.bytes)) = some (some z, k, bytes))
    (kl kc : IntKind) (n : Nat) (hbytes : bytes * n ≤ 281474976710656) (h63 : n ≤ 9223372036854775807) (w : World) :
    (Instr.makeSlice t (.int kl (n : Int)) (.int kc (n : Int))).run P w = .ok (.slice (some ⟨w.heap.size, 0, none⟩) n n) (w.alloc (.cells (madeCells z.cells (n * k)) e)) := by
  obtain ⟨i, hi, hz, hs, hb⟩ := info_parts hinfo
  subst hs hb
  have hb' : (i.bytes : Int) * (n : Int) ≤ 281474976710656 := by
    have h : ((i.bytes * n : Nat) : Int) ≤ 281474976710656 := by omega
    rwa [Int.natCast_mul] at h
  exact run_make (P := P) w t e i z ht hi hz kl kc n n (by omega) (Int.le_refl _) hb' (by omega)
theorem made3 (n : Nat) : (madeCells #[.int .i64 0, .int .i64 0, .int .i64 0] (n * 3)).toList = (List.replicate n (⟨0, 0, 0⟩ : T3)).flatMap enc3 := by
  apply List.ext_getElem?
  intro j
  by_cases hj : j < n * 3
  · have h1 : (List.replicate n (⟨0, 0, 0⟩ : T3))[j / 3]? = some ⟨0, 0, 0⟩ := by rw [List.getElem?_replicate, if_pos (by omega)]
    have h2 : (enc3 ⟨0, 0, 0⟩)[j % 3]? = some (.int .i64 0) := by
      have : j % 3 = 0 ∨ j % 3 = 1 ∨ j % 3 = 2 := by omega
      rcases this with h | h | h <;> rw [h] <;> rfl
    have h3 := flat_at enc3_len _ _ _ h1 _ _ h2
    have e : j / 3 * 3 + j % 3 = j := by omega
    rw [e] at h3
    rw [h3]
    have h4 : (madeCells #[.int .i64 0, .int .i64 0, .int .i64 0] (n * 3))[j]? = some (.int .i64 0) := by
      have : j % 3 = 0 ∨ j % 3 = 1 ∨ j % 3 = 2 := by omega
      rcases this with h | h | h <;> simp [madeCells, hj, h]
    simpa using h4
  · have h1 : (madeCells #[.int .i64 0, .int .i64 0, .int .i64 0] (n * 3)).toList.length = n * 3 := by simp [madeCells]
    rw [List.getElem?_eq_none (by rw [h1]; omega), List.getElem?_eq_none (by rw [flat_len enc3_len, List.length_replicate]; omega)]
/-- The marks that a slice bears behind the marking. -/
def marks3 (s : Int) (n : Nat) : List T3 := (List.range n).map fun (j : Nat) => ⟨s + 3 * (j : Int), s + 3 * (j : Int) + 1, s + 3 * (j : Int) + 1 + 1⟩
def marks1 (s : Int) (n : Nat) : List Int := (List.range n).map fun (j : Nat) => s + (j : Int)
theorem marks3_len (s : Int) (n : Nat) : (marks3 s n).length = n := by simp [marks3]
theorem marks1_len (s : Int) (n : Nat) : (marks1 s n).length = n := by simp [marks1]
theorem marks3_at {s : Int} {n k : Nat} (h : k < n) : (marks3 s n)[k]? = some ⟨s + 3 * (k : Int), s + 3 * (k : Int) + 1, s + 3 * (k : Int) + 1 + 1⟩ := by simp [marks3, h]
theorem marks1_at {s : Int} {n k : Nat} (h : k < n) : (marks1 s n)[k]? = some (s + (k : Int)) := by simp [marks1, h]
theorem set_mid {α : Type} (ys : List α) (xs : List α) (p q : α) (r : List α) (h : xs = p :: r) : (ys ++ xs).set ys.length q = (ys ++ [q]) ++ r := by subst h; simp
theorem fill_step {α : Type} (z : α) {xs : List α} {k : Nat} {p : α} (h : xs[k]? = some p) : (xs.take k ++ List.replicate (xs.length - k) z).set k p = xs.take (k + 1) ++ List.replicate (xs.length - (k + 1)) z := by
  have hk : k < xs.length := (List.getElem?_eq_some_iff.1 h).1
  have e : xs.length - k = (xs.length - (k + 1)) + 1 := by omega
  have h1 := set_mid (xs.take k) (List.replicate (xs.length - k) z) z p (List.replicate (xs.length - (k + 1)) z) (by rw [e, List.replicate_succ])
  rw [List.length_take, Nat.min_eq_left (Nat.le_of_lt hk)] at h1
  rw [h1, take_next h]
theorem fill_at {α : Type} (z : α) {xs : List α} {k : Nat} (h : k < xs.length) : (xs.take k ++ List.replicate (xs.length - k) z)[k]? = some z := by
  rw [List.getElem?_append_right (by simp; omega), List.length_take, Nat.min_eq_left (Nat.le_of_lt h), Nat.sub_self, List.getElem?_replicate, if_pos (by omega)]
theorem fill_len {α : Type} (z : α) {xs : List α} {k : Nat} (h : k ≤ xs.length) : (xs.take k ++ List.replicate (xs.length - k) z).length = xs.length := by
  simp; omega
theorem marks3_step (s : Int) (xs : List T3) (k : Nat) (h : k < xs.length) : (marks3 s k ++ xs.drop k).set k ⟨s + 3 * (k : Int), s + 3 * (k : Int) + 1, s + 3 * (k : Int) + 1 + 1⟩ = marks3 s (k + 1) ++ xs.drop (k + 1) := by
  have h1 := set_mid (marks3 s k) (xs.drop k) _ ⟨s + 3 * (k : Int), s + 3 * (k : Int) + 1, s + 3 * (k : Int) + 1 + 1⟩ _ (List.drop_eq_getElem_cons h)
  rw [marks3_len] at h1
  rw [h1]
  simp [marks3, List.range_succ]
theorem marks1_step (s : Int) (xs : List Int) (k : Nat) (h : k < xs.length) : (marks1 s k ++ xs.drop k).set k (s + (k : Int)) = marks1 s (k + 1) ++ xs.drop (k + 1) := by
  have h1 := set_mid (marks1 s k) (xs.drop k) _ (s + (k : Int)) _ (List.drop_eq_getElem_cons h)
  rw [marks1_len] at h1
  rw [h1]
  simp [marks1, List.range_succ]
theorem one_int (k : IntKind) (n : Int) : (Value.int k n).oneCell' = true := rfl
end Go.Proofs.YtgjllminidlolaaGreatDoor
