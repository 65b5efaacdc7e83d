/- Texts of mine in one: Base Own Draw PushAt SBase. -/
import Derived.Test.YtgjllminidlolaaGreatDoorChecked
import Derived.WalkKit
import Derived.WalkSpells
import Derived.WalkLawsBesides
import Derived.Lib.Hide
import Derived.Test.YtgjllminidlolaaGreatDoorVAA
import Derived.Deep.AppendLies
import Derived.Laws.AppendOwnNone
import Derived.StillTailTactics
import Derived.Deep.QuietTactic
import Derived.BigQuiet
import Derived.Maps.AppendAt
/- What the proofs of this seat share: readings of slices as lists, ends of calls, and small facts on worlds. No statement of the seat is proved here. -/
set_option linter.unusedVariables false
namespace Go.Proofs.YtgjllminidlolaaGreatDoor
open Go.RowKit

def encI (x : Int) : List Value := [.int .i64 x]
def enc3 (p : T3) : List Value := [.int .i64 p.a, .int .i64 p.b, .int .i64 p.c]
def enc4 (p : P4) : List Value := [.int .i64 p.a, .int .i64 p.b, .int .i64 p.i, .int .i64 p.c]
theorem enc4_len (x : P4) : (enc4 x).length = 4 := rfl
theorem encI_one (x : Int) : ∀ u ∈ encI x, u.oneCell' = true := by intro u hu; simp [encI] at hu; subst hu; rfl
theorem enc3_one (x : T3) : ∀ u ∈ enc3 x, u.oneCell' = true := by intro u hu; simp [enc3] at hu; rcases hu with rfl | rfl | rfl <;> rfl
theorem enc4_one (x : P4) : ∀ u ∈ enc4 x, u.oneCell' = true := by intro u hu; simp [enc4] at hu; rcases hu with rfl | rfl | rfl | rfl <;> rfl
theorem encI_len (x : Int) : (encI x).length = 1 := rfl
theorem enc3_len (x : T3) : (enc3 x).length = 3 := rfl

/-- How a call ends: it returns v and the world is as it was. -/
def Same (v : Value) (w : World) (e : Ending) (w' : World) : Prop := e = .returned v ∧ w = w'
/-- How a call ends: it returns v; what was in memory is as it was. -/
def Only (v : Value) (w : World) (e : Ending) (w' : World) : Prop := e = .returned v ∧ Below w.heap.size w w'
theorem Same.only {v : Value} {w w' : World} {e : Ending} (h : Same v w e w') : Only v w e w' := ⟨h.1, h.2 ▸ Below.refl _ _⟩
/-- How a call ends: it returns a bool that says whether p holds; the world is as it was. -/
def SameB (p : Prop) (w : World) (e : Ending) (w' : World) : Prop := ∃ b : Bool, e = .returned (.bool b) ∧ (b = true ↔ p) ∧ w = w'
/-- The same; what was in memory is as it was. -/
def OnlyB (p : Prop) (w : World) (e : Ending) (w' : World) : Prop := ∃ b : Bool, e = .returned (.bool b) ∧ (b = true ↔ p) ∧ Below w.heap.size w w'
theorem SameB.yes {p : Prop} {w w' : World} {e : Ending} (h : SameB p w e w') (hp : p) : Same (.bool true) w e w' := by
  obtain ⟨b, rfl, hb, rfl⟩ := h
  rw [hb.2 hp]
  exact ⟨rfl, rfl⟩
theorem SameB.no {p : Prop} {w w' : World} {e : Ending} (h : SameB p w e w') (hp : ¬ p) : Same (.bool false) w e w' := by
  obtain ⟨b, rfl, hb, rfl⟩ := h
  cases b
  · exact ⟨rfl, rfl⟩
  · exact absurd (hb.1 rfl) hp
theorem OnlyB.yes {p : Prop} {w w' : World} {e : Ending} (h : OnlyB p w e w') (hp : p) : Only (.bool true) w e w' := by
  obtain ⟨b, rfl, hb, hw⟩ := h
  rw [hb.2 hp]
  exact ⟨rfl, hw⟩
theorem OnlyB.no {p : Prop} {w w' : World} {e : Ending} (h : OnlyB p w e w') (hp : ¬ p) : Only (.bool false) w e w' := by
  obtain ⟨b, rfl, hb, hw⟩ := h
  cases b
  · exact ⟨rfl, hw⟩
  · exact absurd (hb.1 rfl) hp
theorem SameB.cases {p : Prop} {w w' : World} {e : Ending} (h : SameB p w e w') : (e = .returned (.bool true) ∧ p ∧ w = w') ∨ (e = .returned (.bool false) ∧ ¬ p ∧ w = w') := by
  obtain ⟨b, rfl, hb, rfl⟩ := h
  cases b
  · exact .inr ⟨rfl, fun hp => Bool.noConfusion (hb.2 hp), rfl⟩
  · exact .inl ⟨rfl, hb.1 rfl, rfl⟩
theorem OnlyB.cases {p : Prop} {w w' : World} {e : Ending} (h : OnlyB p w e w') : (e = .returned (.bool true) ∧ p ∧ Below w.heap.size w w') ∨ (e = .returned (.bool false) ∧ ¬ p ∧ Below w.heap.size w w') := by
  obtain ⟨b, rfl, hb, hw⟩ := h
  cases b
  · exact .inr ⟨rfl, fun hp => Bool.noConfusion (hb.2 hp), hw⟩
  · exact .inl ⟨rfl, hb.1 rfl, hw⟩
theorem onlyB_true {p : Prop} {w w' : World} (hp : p) (h : Below w.heap.size w w') : OnlyB p w (.returned (.bool true)) w' := ⟨true, rfl, by simp [hp], h⟩
theorem onlyB_false {p : Prop} {w w' : World} (hp : ¬ p) (h : Below w.heap.size w w') : OnlyB p w (.returned (.bool false)) w' := ⟨false, rfl, by simp [hp], h⟩
theorem ret_int {k : IntKind} {a b : Int} (h : a = b) : Ending.returned (.int k a) = .returned (.int k b) := by rw [h]
theorem ret_bool {a b : Bool} (h : a = b) : Ending.returned (.bool a) = .returned (.bool b) := by rw [h]

theorem bcell {W w1 : World} (hb : Below W.heap.size W w1) : (∀ b o, b < W.heap.size → w1.cell? ⟨b, o, none⟩ = W.cell? ⟨b, o, none⟩) ∧ (∀ b o, b < W.heap.size → w1.frozen? ⟨b, o, none⟩ = W.frozen? ⟨b, o, none⟩) :=
  ⟨fun _ _ h => hb.cell h, fun _ _ h => hb.frozen h⟩
theorem below_trans {a b c : World} (h : Below a.heap.size a b) (k : Below b.heap.size b c) : Below a.heap.size a c := h.trans (k.mono h.size)
theorem below_drew {a b : World} (h : Below a.heap.size a b) : Below a.heap.size a b.drew := h.drew
theorem below_alloc {a b : World} (h : Below a.heap.size a b) (o : Obj) : Below a.heap.size a (b.alloc o) := h.alloc h.size o

/-- The slice value '.slice A n c' reads as the list xs, an element in k cells by enc. -/
def SlE {α : Type} (k : Nat) (enc : α → List Value) (w : World) (A : Option Addr) (n : Nat) (xs : List α) : Prop :=
  xs.length = n ∧ (0 < n → ∃ b off, A = some ⟨b, off, none⟩ ∧ b < w.heap.size ∧ ∀ j p, xs[j]? = some p → ∀ i v, (enc p)[i]? = some v → w.cell? ⟨b, off + (j * k + i), none⟩ = some v)

section
variable {α : Type} {k : Nat} {enc : α → List Value} {w w' : World} {A : Option Addr} {n : Nat} {xs : List α}
theorem SlE.len (h : SlE k enc w A n xs) : xs.length = n := h.1
theorem SlE.below (h : SlE k enc w A n xs) (hb : Below w.heap.size w w') : SlE k enc w' A n xs :=
  ⟨h.1, fun hn => by
    obtain ⟨b, off, hA, hlt, hc⟩ := h.2 hn
    exact ⟨b, off, hA, Nat.lt_of_lt_of_le hlt hb.size, fun j p hj i v hv => (hb.cell (p := ⟨b, _, none⟩) hlt).trans (hc j p hj i v hv)⟩⟩
theorem SlE.alloc (h : SlE k enc w A n xs) (o : Obj) : SlE k enc (w.alloc o) A n xs := h.below ((Below.refl _ _).alloc (Nat.le_refl _) o)
theorem SlE.drew (h : SlE k enc w A n xs) : SlE k enc w.drew A n xs := h
theorem SlE.drewN (h : SlE k enc w A n xs) (m : Nat) : SlE k enc (w.drewN m) A n xs := h
theorem SlE.nil_ : SlE k enc w A 0 ([] : List α) := ⟨rfl, fun h => absurd h (by omega)⟩
theorem SlE.empty (h : SlE k enc w A 0 xs) : xs = [] := List.eq_nil_of_length_eq_zero h.1
theorem SlE.at_ (h : SlE k enc w A n xs) {j : Nat} (hj : j < n) : ∃ b off p, A = some ⟨b, off, none⟩ ∧ b < w.heap.size ∧ xs[j]? = some p ∧ xs.drop j = p :: xs.drop (j + 1) ∧
    ∀ i v, (enc p)[i]? = some v → w.cell? ⟨b, off + (j * k + i), none⟩ = some v := by
  obtain ⟨b, off, hA, hlt, hc⟩ := h.2 (by omega)
  have hl : j < xs.length := by rw [h.1]; exact hj
  exact ⟨b, off, xs[j], hA, hlt, List.getElem?_eq_getElem hl, List.drop_eq_getElem_cons hl, hc j _ (List.getElem?_eq_getElem hl)⟩
end

/-- An element of a slice of three-cell structs, in a later world. -/
theorem at3 {w wr : World} {A : Option Addr} {n : Nat} {xs : List T3} (h : SlE 3 enc3 w A n xs) (hb : Below w.heap.size w wr) {j : Nat} (hj : j < n) :
    ∃ b off x y z, A = some ⟨b, off, none⟩ ∧ b < wr.heap.size ∧ xs[j]? = some ⟨x, y, z⟩ ∧ xs.drop j = ⟨x, y, z⟩ :: xs.drop (j + 1) ∧
      wr.cell? ⟨b, off + j * 3, none⟩ = some (.int .i64 x) ∧ wr.cell? ⟨b, off + j * 3 + 1, none⟩ = some (.int .i64 y) ∧ wr.cell? ⟨b, off + j * 3 + 2, none⟩ = some (.int .i64 z) := by
  obtain ⟨b, off, ⟨x, y, z⟩, hA, hlt, hx, hd, hc⟩ := (h.below hb).at_ hj
  exact ⟨b, off, x, y, z, hA, hlt, hx, hd, hc 0 _ rfl, hc 1 _ rfl, hc 2 _ rfl⟩
/-- The same, with what keeps the cells. -/
theorem at3k {w wr : World} {A : Option Addr} {n : Nat} {xs : List T3} (h : SlE 3 enc3 w A n xs) (hb : Below w.heap.size w wr) {j : Nat} (hj : j < n) :
    ∃ b off x y z, A = some ⟨b, off, none⟩ ∧ xs[j]? = some ⟨x, y, z⟩ ∧
      (∀ w', Below w.heap.size w w' → w'.cell? ⟨b, off + j * 3, none⟩ = some (.int .i64 x) ∧ w'.cell? ⟨b, off + j * 3 + 1, none⟩ = some (.int .i64 y) ∧ w'.cell? ⟨b, off + j * 3 + 2, none⟩ = some (.int .i64 z)) := by
  obtain ⟨b, off, ⟨x, y, z⟩, hA, hlt, hx, hd, hc⟩ := h.at_ hj
  exact ⟨b, off, x, y, z, hA, hx, fun w' hw => ⟨(hw.cell (p := ⟨b, _, none⟩) hlt).trans (hc 0 _ rfl), (hw.cell (p := ⟨b, _, none⟩) hlt).trans (hc 1 _ rfl), (hw.cell (p := ⟨b, _, none⟩) hlt).trans (hc 2 _ rfl)⟩⟩
/-- An element of a slice of four-cell structs, in a later world. -/
theorem at4 {w wr : World} {A : Option Addr} {n : Nat} {xs : List P4} (h : SlE 4 enc4 w A n xs) (hb : Below w.heap.size w wr) {j : Nat} (hj : j < n) :
    ∃ b off x y i z, A = some ⟨b, off, none⟩ ∧ b < wr.heap.size ∧ xs[j]? = some ⟨x, y, i, z⟩ ∧
      wr.cell? ⟨b, off + j * 4, none⟩ = some (.int .i64 x) ∧ wr.cell? ⟨b, off + j * 4 + 1, none⟩ = some (.int .i64 y) ∧
      wr.cell? ⟨b, off + j * 4 + 2, none⟩ = some (.int .i64 i) ∧ wr.cell? ⟨b, off + j * 4 + 3, none⟩ = some (.int .i64 z) := by
  obtain ⟨b, off, ⟨x, y, i, z⟩, hA, hlt, hx, hd, hc⟩ := (h.below hb).at_ hj
  exact ⟨b, off, x, y, i, z, hA, hlt, hx, hc 0 _ rfl, hc 1 _ rfl, hc 2 _ rfl, hc 3 _ rfl⟩
/-- An element of a slice of integers, in a later world. -/
theorem at1 {w wr : World} {A : Option Addr} {n : Nat} {xs : List Int} (h : SlE 1 encI w A n xs) (hb : Below w.heap.size w wr) {j : Nat} (hj : j < n) :
    ∃ b off x, A = some ⟨b, off, none⟩ ∧ b < wr.heap.size ∧ xs[j]? = some x ∧ xs.drop j = x :: xs.drop (j + 1) ∧ wr.cell? ⟨b, off + j, none⟩ = some (.int .i64 x) := by
  obtain ⟨b, off, x, hA, hlt, hx, hd, hc⟩ := (h.below hb).at_ hj
  exact ⟨b, off, x, hA, hlt, hx, hd, by have := hc 0 _ rfl; simpa using this⟩

/-- The elements' cells, one behind the other. -/
theorem flat_at {α : Type} {k : Nat} {enc : α → List Value} (hk : ∀ x, (enc x).length = k) : ∀ (xs : List α) (j : Nat) (p : α), xs[j]? = some p → ∀ i v, (enc p)[i]? = some v → (xs.flatMap enc)[j * k + i]? = some v
  | [], j, p, h, _, _, _ => by simp at h
  | x :: xs, 0, p, h, i, v, hv => by
    simp at h
    subst h
    have hi : i < (enc x).length := by
      rcases Nat.lt_or_ge i (enc x).length with hlt | hge
      · exact hlt
      · rw [List.getElem?_eq_none hge] at hv; cases hv
    simp only [List.flatMap_cons, Nat.zero_mul, Nat.zero_add]
    rw [List.getElem?_append_left hi, hv]
  | x :: xs, j + 1, p, h, i, v, hv => by
    simp only [List.getElem?_cons_succ] at h
    have := flat_at hk xs j p h i v hv
    simp only [List.flatMap_cons]
    rw [List.getElem?_append_right (by rw [hk, Nat.add_mul]; omega), hk, ← this]
    congr 1
    rw [Nat.add_mul]
    omega
theorem flat_len {α : Type} {k : Nat} {enc : α → List Value} (hk : ∀ x, (enc x).length = k) (xs : List α) : (xs.flatMap enc).length = xs.length * k := by
  induction xs with
  | nil => simp
  | cons x xs ih => simp only [List.flatMap_cons, List.length_append, List.length_cons, hk, ih, Nat.add_mul]; omega

/-- What a call owns reads as a list. -/
theorem sl_of_own {α : Type} {k : Nat} {enc : α → List Value} {w : World} {base : Nat} {e : TypeId} {v : Value} {n : Nat} {xs : List α} (hk : ∀ x, (enc x).length = k)
    (h : w.ownsRow base e k v n (xs.flatMap enc)) (hn : xs.length = n) : ∃ A c, v = .slice A n c ∧ SlE k enc w A n xs := by
  rcases h.2 with ⟨rfl, rfl⟩ | ⟨g, cap, cur, rfl, _, hh, _⟩
  · exact ⟨none, 0, rfl, hn, fun h => absurd h (by omega)⟩
  · refine ⟨_, cap, rfl, hn, fun hn0 => ⟨g, 0, rfl, (Array.getElem?_eq_some_iff.1 hh).1, fun j p hj i u hu => ?_⟩⟩
    have := h.cells (g := g) rfl (j * k + i) u (flat_at hk xs j p hj i u hu)
    rw [Addr.add] at this
    split at this
    · rename_i h0; rw [h0]; exact this
    · exact this
end Go.Proofs.YtgjllminidlolaaGreatDoor
/- Slices that a call owns, as lists; append as a step of a walk. -/
set_option linter.unusedVariables false
namespace Go.Proofs.YtgjllminidlolaaGreatDoor
open Go.RowKit

/-- The slice value v is the call's own (blocks from base on) and holds the list xs. -/
def OwnE {α : Type} (k : Nat) (enc : α → List Value) (ty base : Nat) (w : World) (v : Value) (xs : List α) : Prop :=
  w.ownsRow base ty k v xs.length (xs.flatMap enc)
/-- How a call ends: it returns a slice of its own that holds xs; what was in memory is as it was. -/
def RetOwn {α : Type} (k : Nat) (enc : α → List Value) (ty : Nat) (xs : List α) (w : World) (e : Ending) (w' : World) : Prop :=
  ∃ v, e = .returned v ∧ OwnE k enc ty w.heap.size w' v xs ∧ Below w.heap.size w w'
/-- The same with a bool beside it. -/
def RetOwnB {α : Type} (k : Nat) (enc : α → List Value) (ty : Nat) (xs : List α) (b : Bool) (w : World) (e : Ending) (w' : World) : Prop :=
  ∃ v, e = .returned (.tuple #[v, .bool b]) ∧ OwnE k enc ty w.heap.size w' v xs ∧ Below w.heap.size w w'

section
variable {α : Type} {k ty base : Nat} {enc : α → List Value} {w w' : World} {v : Value} {xs : List α}
theorem OwnE.sl (hk : ∀ x, (enc x).length = k) (h : OwnE k enc ty base w v xs) : ∃ A c, v = .slice A xs.length c ∧ SlE k enc w A xs.length xs :=
  sl_of_own hk h rfl
theorem OwnE.below {B : Nat} (h : OwnE k enc ty base w v xs) (hb : Below B w w') (hB : w.heap.size ≤ B) : OwnE k enc ty base w' v xs :=
  h.kept (row := none) ⟨hb.os, hb.tape, hb.output, hb.size, fun j hj _ => hb.block j (by omega)⟩ (by cases v.ownBlock <;> simp)
theorem OwnE.alloc (h : OwnE k enc ty base w v xs) (o : Obj) : OwnE k enc ty base (w.alloc o) v xs := World.ownsRow.alloc h o
theorem OwnE.drew (h : OwnE k enc ty base w v xs) : OwnE k enc ty base w.drew v xs := h
theorem OwnE.lt (h : OwnE k enc ty base w v xs) : ∀ j, v.ownBlock = some j → base ≤ j ∧ j < w.heap.size := World.ownsRow.lt h
theorem OwnE.base_le {base' : Nat} (h : OwnE k enc ty base w v xs) (hb : base' ≤ base) : OwnE k enc ty base' w v xs := by
  refine ⟨h.1, ?_⟩
  rcases h.2 with h2 | ⟨g, cap, cur, hv, hg, r⟩
  · exact .inl h2
  · exact .inr ⟨g, cap, cur, hv, by omega, r⟩
/-- A new block is the call's own. -/
theorem own_new (w : World) (ty base : Nat) (hb : base ≤ w.heap.size) (hk : ∀ x : α, (enc x).length = k) (xs : List α) (cs : Array Value) (hcs : cs.toList = xs.flatMap enc) (hm : xs.length ≤ maxLen) {n : Nat} (hn : xs.length = n) :
    OwnE k enc ty base (w.alloc (.cells cs ty)) (.slice (some ⟨w.heap.size, 0, none⟩) n n) xs := by
  subst hn
  have hs : cs.size = xs.length * k := by rw [← Array.length_toList, hcs, flat_len hk]
  refine ⟨flat_len hk xs, .inr ⟨w.heap.size, xs.length, cs, rfl, hb, heap_alloc_new w _, Nat.le_refl _, hm, hs, ?_⟩⟩
  rw [← hcs, ← hs, ← Array.length_toList, List.take_length]
theorem own_new' (w : World) (ty base : Nat) (hb : base ≤ w.heap.size) (hk : ∀ x : α, (enc x).length = k) (xs : List α) (cs : Array Value) (hcs : cs.toList = xs.flatMap enc) (hm : xs.length ≤ maxLen) {n : Nat} (hn : xs.length = n) {g : Nat} (hg : g = w.heap.size) :
    OwnE k enc ty base (w.alloc (.cells cs ty)) (.slice (some ⟨g, 0, none⟩) n n) xs := by
  subst hg
  exact own_new w ty base hb hk xs cs hcs hm hn
/-- A new block reads as a list. -/
theorem slE_new (w : World) (ty : Nat) (hk : ∀ x : α, (enc x).length = k) (xs : List α) (cs : Array Value) (hcs : cs.toList = xs.flatMap enc) (hm : xs.length ≤ maxLen) {n : Nat} (hn : xs.length = n) {g : Nat} (hg : g = w.heap.size) :
    SlE k enc (w.alloc (.cells cs ty)) (some ⟨g, 0, none⟩) n xs := by
  obtain ⟨A, c, hv, h⟩ := sl_of_own hk (own_new' w ty 0 (Nat.zero_le _) hk xs cs hcs hm hn hg) rfl
  injection hv with h1 h2 h3
  subst h1 h2
  exact h
/-- What was read stays where another row is written. -/
theorem SlE.grown {b off n : Nat} {row : Option Nat} (h : SlE k enc w (some ⟨b, off, none⟩) n xs) (hg : w.grownBy w' row) (hne : row ≠ some b) : SlE k enc w' (some ⟨b, off, none⟩) n xs :=
  ⟨h.1, fun hn => by
    obtain ⟨b', off', hA, hlt, hc⟩ := h.2 hn
    injection hA with hA
    injection hA with h1 h2
    subst h1 h2
    exact ⟨b, off, rfl, Nat.lt_of_lt_of_le hlt hg.size, fun j p hj i v hv => hg.cell (hc j p hj i v hv) (fun e => hne e.symm)⟩⟩
end

/-- append(v, x): x has just been laid in a block of its own. -/
theorem wpList_push {P : Program} {α : Type} {ops : Array Oper} {rest : List Oper} {o : Oper} {a : Act} {Q : Exit → Act → World → Prop} {W : World}
    (k bytes ty : Nat) (enc : α → List Value) (hk : ∀ x, (enc x).length = k) (h1 : ∀ x, ∀ u ∈ enc x, u.oneCell' = true) (hk0 : 0 < k) (x : α) (cs : Array Value) (tb : TypeId) (hcs : cs.toList = enc x)
    (hgd : o.guard = none) (s y : Operand) (t : TypeId) (ho : o.op = .call { callee := .builtin .append, args := #[s, y], argTypes := #[t, t] })
    (ht : P.underlying t = some (.slice ty)) {z : Value} (hinfo : (P.info? ty).map (fun i => (i.zero, i.size, i.bytes)) = some (some z, k, bytes)) (hz : z.cells.size = k)
    (base : Nat) (v : Value) (xs : List α) (hs : a.eval s = v) {g : Nat} (hy : a.eval y = .slice (some ⟨g, 0, none⟩) 1 1) (hg : g = W.heap.size) (hown : OwnE k enc ty base W v xs)
    (hbytes : (xs.length + 1) * bytes ≤ 140737488355328) (h63 : xs.length + 1 ≤ maxLen) (hbase : base ≤ W.heap.size)
    (h : ∀ v' w', OwnE k enc ty base w' v' (xs ++ [x]) → W.grownBy w' v.ownBlock → wpList P ops Q rest (a.put o.dst v') w') :
    wpList P ops Q (o :: rest) a (W.alloc (.cells cs tb)) := by
  subst hg
  obtain ⟨i0, hi, hz0, hz1, hz2⟩ := info_parts hinfo
  refine wpList_append_own _ hgd s y t ho base ty i0 z k bytes ht hi hz0 hz1 hz2 hz hk0 v xs.length (xs.flatMap enc) hs (World.ownsRow.alloc hown _) ⟨W.heap.size, 0, none⟩ 1 1 (enc x) hy (by rw [hk]; omega) ?_ (h1 x) h63 hbytes (by simp; omega) ?_
  · intro j u hj
    have : (cs.toList)[j]? = some u := by rw [hcs]; exact hj
    exact World.news_of_block (heap_alloc_new W _) j u this
  · intro v' w' hown' hg _
    refine h v' w' ?_ ⟨hg.os, hg.tape, hg.output, Nat.le_trans (by simp) hg.size, fun j hj hne => (hg.block j (by simp; omega) hne).trans (Below.heap_alloc W _ j hj)⟩
    have e : (xs ++ [x]).flatMap enc = xs.flatMap enc ++ enc x := by simp
    unfold OwnE
    rw [e, List.length_append]
    exact hown'

/-- What an append to a row of the call's own leaves of old memory. -/
theorem below_grown {w0 W w' : World} {v : Value} {α : Type} {k ty base : Nat} {enc : α → List Value} {xs : List α} (hb : Below w0.heap.size w0 W) (hg : W.grownBy w' v.ownBlock)
    (hown : OwnE k enc ty base W v xs) (hbase : w0.heap.size ≤ base) : Below w0.heap.size w0 w' :=
  hb.grown hg hb.size (fun j hj => Nat.le_trans hbase (hown.lt j hj).1)
theorem OwnE.frozen {α : Type} {k ty base : Nat} {enc : α → List Value} {w : World} {g n c : Nat} {xs : List α} (h : OwnE k enc ty base w (.slice (some ⟨g, 0, none⟩) n c) xs) (j : Nat) : w.frozen? ⟨g, j, none⟩ = false := by
  rcases h.2 with ⟨h', _⟩ | ⟨g', cap', cur, h', _, hg, _⟩
  · simp at h'
  · simp only [Value.slice.injEq, Option.some.injEq, Addr.mk.injEq, and_true] at h'
    obtain ⟨rfl, rfl, rfl⟩ := h'
    exact frozen_of_row w g j cur ty hg
theorem OwnE.slc {α : Type} {k ty base : Nat} {enc : α → List Value} {w : World} {v : Value} {xs : List α} (hk : ∀ x, (enc x).length = k) (h : OwnE k enc ty base w v xs) {n : Nat} (hn : xs.length = n) :
    ∃ A c, v = .slice A n c ∧ SlE k enc w A n xs ∧ n ≤ c := by
  subst hn
  obtain ⟨A, c, rfl, hs⟩ := h.sl hk
  refine ⟨A, c, rfl, hs, ?_⟩
  rcases h.2 with ⟨hv, h0⟩ | ⟨g, cap, cur, hv, _, _, hnc, _⟩
  · omega
  · injection hv with h1 h2 h3
    omega
theorem sl_of_own_at {α : Type} {k ty base : Nat} {enc : α → List Value} {w : World} {A : Option Addr} {n c : Nat} {xs : List α} (hk : ∀ x, (enc x).length = k) (h : OwnE k enc ty base w (.slice A n c) xs) (hn : xs.length = n) : SlE k enc w A n xs := by
  obtain ⟨A', c', hv, hs, _⟩ := h.slc hk hn
  injection hv with h1 h2 h3
  subst h1
  exact hs
theorem OwnE.shrink {α : Type} {k ty base : Nat} {enc : α → List Value} (hk : ∀ x, (enc x).length = k) {w : World} {g n c m : Nat} {xs : List α} (h : OwnE k enc ty base w (.slice (some ⟨g, 0, none⟩) n c) xs) (hn : xs.length = n) (hm : m ≤ n) :
    OwnE k enc ty base w (.slice (some ⟨g, 0, none⟩) m c) (xs.take m) := by
  rcases h.2 with ⟨h', _⟩ | ⟨g', cap', cur, h', hb, hg, hnc, hcm, hcs, htake⟩
  · simp at h'
  · injection h' with e1 e2 e3
    injection e1 with e1
    injection e1 with e1
    subst e1 e3
    have hl : (xs.take m).length = m := by rw [List.length_take]; omega
    refine ⟨by rw [flat_len hk], .inr ⟨g, c, cur, by rw [hl], hb, hg, by omega, hcm, hcs, ?_⟩⟩
    rw [hl]
    have e : xs.flatMap enc = (xs.take m).flatMap enc ++ (xs.drop m).flatMap enc := by rw [← List.flatMap_append, List.take_append_drop]
    have h1 : (cur.toList.take (xs.length * k)).take (m * k) = cur.toList.take (m * k) := by
      rw [List.take_take, Nat.min_eq_left (Nat.mul_le_mul_right k (by omega))]
    rw [← h1, htake, e, List.take_left' (by rw [flat_len hk, hl])]
theorem OwnE.spare {α : Type} {k ty base : Nat} {enc : α → List Value} {w : World} {g n c : Nat} {xs : List α} (h : OwnE k enc ty base w (.slice (some ⟨g, 0, none⟩) n c) xs) {j : Nat} (hj : j < c * k) : ∃ u, w.cell? ⟨g, j, none⟩ = some u := by
  rcases h.2 with ⟨h', _⟩ | ⟨g', cap', cur, h', hb, hg, hnc, hcm, hcs, htake⟩
  · simp at h'
  · injection h' with e1 e2 e3
    injection e1 with e1
    injection e1 with e1
    subst e1 e3
    exact ⟨cur[j]'(by rw [hcs]; exact hj), by rw [cell_of_row w g j cur ty (0, 0) hg]; exact Array.getElem?_eq_getElem _⟩
theorem OwnE.beyond {α : Type} {k ty base : Nat} {enc : α → List Value} (hk : ∀ x, (enc x).length = k) {w : World} {g n c : Nat} {xs : List α} (h : OwnE k enc ty base w (.slice (some ⟨g, 0, none⟩) n c) xs) (hn : xs.length = n) {j : Nat} (hj : n * k ≤ j) (u : Value) :
    OwnE k enc ty base (w.setCell ⟨g, j, none⟩ u) (.slice (some ⟨g, 0, none⟩) n c) xs ∧ w.grownBy (w.setCell ⟨g, j, none⟩ u) (some g) := by
  subst hn
  have h1 := World.ownsRow.stored h j u
  refine ⟨?_, h1.2⟩
  have h2 := h1.1
  rw [List.set_eq_of_length_le (by rw [flat_len hk]; exact hj)] at h2
  exact h2
/-- Two owned slices lie apart. -/
theorem own_sep {v v' : Value} {a b c d : Nat} (h : ∀ j, v.ownBlock = some j → a ≤ j ∧ j < b) (h' : ∀ j, v'.ownBlock = some j → c ≤ j ∧ j < d) (hbc : b ≤ c ∨ d ≤ a) : v.ownBlock = none ∨ v.ownBlock ≠ v'.ownBlock := by
  cases hv : v.ownBlock with
  | none => exact .inl rfl
  | some j =>
    refine .inr fun e => ?_
    have h1 := h j hv
    have h2 := h' j e.symm
    omega
theorem OwnE.apart {α : Type} {k ty base : Nat} {enc : α → List Value} {w w' : World} {v : Value} {row : Option Nat} {xs : List α} (h : OwnE k enc ty base w v xs) (hg : w.grownBy w' row) (hne : v.ownBlock = none ∨ v.ownBlock ≠ row) : OwnE k enc ty base w' v xs :=
  World.ownsRow.kept h hg hne
/-- Three stores write one element of a row of three-cell structs. -/
theorem flat3_set : ∀ (xs : List T3) (j : Nat) (p : T3), j < xs.length →
    (((xs.flatMap enc3).set (j * 3) (.int .i64 p.a)).set (j * 3 + 1) (.int .i64 p.b)).set (j * 3 + 2) (.int .i64 p.c) = (xs.set j p).flatMap enc3
  | [], _, _, h => absurd h (by simp)
  | x :: xs, 0, p, _ => by simp [enc3]
  | x :: xs, j + 1, p, h => by
    have ih := flat3_set xs j p (by simpa using h)
    have e0 : (j + 1) * 3 = j * 3 + 1 + 1 + 1 := by omega
    simp only [List.flatMap_cons, List.set_cons_succ, ← ih, enc3, List.cons_append, List.nil_append, e0]
theorem own3_set {w : World} {base ty g cap n : Nat} {xs : List T3} (h : OwnE 3 enc3 ty base w (.slice (some ⟨g, 0, none⟩) n cap) xs) (hn : xs.length = n) {j : Nat} (hj : j < n) (x y z : Int) :
    OwnE 3 enc3 ty base (((w.setCell ⟨g, j * 3, none⟩ (.int .i64 x)).setCell ⟨g, j * 3 + 1, none⟩ (.int .i64 y)).setCell ⟨g, j * 3 + 2, none⟩ (.int .i64 z)) (.slice (some ⟨g, 0, none⟩) n cap) (xs.set j ⟨x, y, z⟩) ∧
      w.grownBy (((w.setCell ⟨g, j * 3, none⟩ (.int .i64 x)).setCell ⟨g, j * 3 + 1, none⟩ (.int .i64 y)).setCell ⟨g, j * 3 + 2, none⟩ (.int .i64 z)) (some g) := by
  subst hn
  have h1 := World.ownsRow.stored h (j * 3) (.int .i64 x)
  have h2 := World.ownsRow.stored h1.1 (j * 3 + 1) (.int .i64 y)
  have h3 := World.ownsRow.stored h2.1 (j * 3 + 2) (.int .i64 z)
  have hs : ∀ {a b c : World} {r : Option Nat}, a.grownBy b r → b.grownBy c r → a.grownBy c r := fun h k =>
    ⟨k.os.trans h.os, k.tape.trans h.tape, k.output.trans h.output, Nat.le_trans h.size k.size, fun i hi hr => (k.block i (Nat.lt_of_lt_of_le hi h.size) hr).trans (h.block i hi hr)⟩
  refine ⟨?_, hs (hs h1.2 h2.2) h3.2⟩
  unfold OwnE
  rw [List.length_set, ← flat3_set xs j ⟨x, y, z⟩ hj]
  exact h3.1
theorem flat1_set : ∀ (xs : List Int) (j : Nat) (p : Int), (xs.flatMap encI).set j (.int .i64 p) = (xs.set j p).flatMap encI
  | [], _, _ => by simp
  | x :: xs, 0, p => by simp [encI]
  | x :: xs, j + 1, p => by
    have ih := flat1_set xs j p
    simp only [List.flatMap_cons, List.set_cons_succ, ← ih, encI, List.cons_append, List.nil_append]
theorem own1_set {w : World} {base ty g cap n : Nat} {xs : List Int} (h : OwnE 1 encI ty base w (.slice (some ⟨g, 0, none⟩) n cap) xs) (hn : xs.length = n) (j : Nat) (x : Int) :
    OwnE 1 encI ty base (w.setCell ⟨g, j, none⟩ (.int .i64 x)) (.slice (some ⟨g, 0, none⟩) n cap) (xs.set j x) ∧ w.grownBy (w.setCell ⟨g, j, none⟩ (.int .i64 x)) (some g) := by
  subst hn
  have h1 := World.ownsRow.stored h j (.int .i64 x)
  refine ⟨?_, h1.2⟩
  unfold OwnE
  rw [List.length_set, ← flat1_set]
  exact h1.1
theorem grown_trans {a b c : World} {r : Option Nat} (h : a.grownBy b r) (k : b.grownBy c r) : a.grownBy c r :=
  ⟨k.os.trans h.os, k.tape.trans h.tape, k.output.trans h.output, Nat.le_trans h.size k.size, fun i hi hr => (k.block i (Nat.lt_of_lt_of_le hi h.size) hr).trans (h.block i hi hr)⟩
/-- Where the cells of an owned slice lie, and that they may be written. -/
theorem OwnE.form {α : Type} {k ty base : Nat} {enc : α → List Value} {w : World} {A : Option Addr} {n c : Nat} {xs : List α} (h : OwnE k enc ty base w (.slice A n c) xs) (hn : 0 < xs.length) :
    ∃ g, A = some ⟨g, 0, none⟩ ∧ n = xs.length ∧ base ≤ g ∧ g < w.heap.size ∧ ∀ j, w.frozen? ⟨g, j, none⟩ = false := by
  obtain ⟨g, cap, hv, hb, hg⟩ := World.ownsRow.form h hn
  injection hv with h1 h2 h3
  subst h1 h2
  exact ⟨g, rfl, rfl, hb, hg, fun j => h.frozen j⟩
theorem OwnE.cell {α : Type} {k ty base : Nat} {enc : α → List Value} (hk : ∀ x, (enc x).length = k) {w : World} {g c n : Nat} {xs : List α} (h : OwnE k enc ty base w (.slice (some ⟨g, 0, none⟩) n c) xs)
    {j : Nat} {p : α} (hp : xs[j]? = some p) {i : Nat} {u : Value} (hu : (enc p)[i]? = some u) : w.cell? ⟨g, j * k + i, none⟩ = some u := by
  have := World.ownsRow.cells h (g := g) rfl (j * k + i) u (flat_at hk xs j p hp i u hu)
  rw [Addr.add] at this
  split at this
  · rename_i h0; rw [h0]; exact this
  · simpa using this
theorem OwnE.cell3 {ty base : Nat} {w : World} {g c n : Nat} {xs : List T3} (h : OwnE 3 enc3 ty base w (.slice (some ⟨g, 0, none⟩) n c) xs) {j : Nat} {x y z : Int} (hp : xs[j]? = some ⟨x, y, z⟩) :
    w.cell? ⟨g, j * 3, none⟩ = some (.int .i64 x) ∧ w.cell? ⟨g, j * 3 + 1, none⟩ = some (.int .i64 y) ∧ w.cell? ⟨g, j * 3 + 2, none⟩ = some (.int .i64 z) :=
  ⟨OwnE.cell enc3_len h hp (i := 0) rfl, OwnE.cell enc3_len h hp (i := 1) rfl, OwnE.cell enc3_len h hp (i := 2) rfl⟩
theorem OwnE.cell1 {ty base : Nat} {w : World} {g c n : Nat} {xs : List Int} (h : OwnE 1 encI ty base w (.slice (some ⟨g, 0, none⟩) n c) xs) {j : Nat} {x : Int} (hp : xs[j]? = some x) :
    w.cell? ⟨g, j, none⟩ = some (.int .i64 x) := by
  have := OwnE.cell encI_len h hp (i := 0) rfl
  simpa using this
/-- make([]T, n), whatever T. -/
theorem run_make_rowN {P : Program} (t e : TypeId) (z : Value) (k bytes : Nat) (ht : P.underlying t = some (.slice e)) (hinfo : (P.info? e).map (fun i => (i.zero, i.size, i.bytes)) = some (some z, k, bytes))
    (kl kc : IntKind) (n : Nat) (hbytes : bytes * n ≤ 281474976710656) (h63 : n ≤ 9223372036854775807) (w : World) :
    (Instr.makeSlice t (.int kl (n : Int)) (.int kc (n : Int))).run P w = .ok (.slice (some ⟨w.heap.size, 0, none⟩) n n) (w.alloc (.cells (madeCells z.cells (n * k)) e)) := by
  obtain ⟨i, hi, hz, hs, hb⟩ := info_parts hinfo
  subst hs hb
  have hb' : (i.bytes : Int) * (n : Int) ≤ 281474976710656 := by
    have h : ((i.bytes * n : Nat) : Int) ≤ 281474976710656 := by omega
    rwa [Int.natCast_mul] at h
  exact run_make (P := P) w t e i z ht hi hz kl kc n n (by omega) (Int.le_refl _) hb' (by omega)
theorem made3 (n : Nat) : (madeCells #[.int .i64 0, .int .i64 0, .int .i64 0] (n * 3)).toList = (List.replicate n (⟨0, 0, 0⟩ : T3)).flatMap enc3 := by
  apply List.ext_getElem?
  intro j
  by_cases hj : j < n * 3
  · have h1 : (List.replicate n (⟨0, 0, 0⟩ : T3))[j / 3]? = some ⟨0, 0, 0⟩ := by rw [List.getElem?_replicate, if_pos (by omega)]
    have h2 : (enc3 ⟨0, 0, 0⟩)[j % 3]? = some (.int .i64 0) := by
      have : j % 3 = 0 ∨ j % 3 = 1 ∨ j % 3 = 2 := by omega
      rcases this with h | h | h <;> rw [h] <;> rfl
    have h3 := flat_at enc3_len _ _ _ h1 _ _ h2
    have e : j / 3 * 3 + j % 3 = j := by omega
    rw [e] at h3
    rw [h3]
    have h4 : (madeCells #[.int .i64 0, .int .i64 0, .int .i64 0] (n * 3))[j]? = some (.int .i64 0) := by
      have : j % 3 = 0 ∨ j % 3 = 1 ∨ j % 3 = 2 := by omega
      rcases this with h | h | h <;> simp [madeCells, hj, h]
    simpa using h4
  · have h1 : (madeCells #[.int .i64 0, .int .i64 0, .int .i64 0] (n * 3)).toList.length = n * 3 := by simp [madeCells]
    rw [List.getElem?_eq_none (by rw [h1]; omega), List.getElem?_eq_none (by rw [flat_len enc3_len, List.length_replicate]; omega)]
/-- The marks that a slice bears behind the marking. -/
def marks3 (s : Int) (n : Nat) : List T3 := (List.range n).map fun (j : Nat) => ⟨s + 3 * (j : Int), s + 3 * (j : Int) + 1, s + 3 * (j : Int) + 1 + 1⟩
def marks1 (s : Int) (n : Nat) : List Int := (List.range n).map fun (j : Nat) => s + (j : Int)
theorem marks3_len (s : Int) (n : Nat) : (marks3 s n).length = n := by simp [marks3]
theorem marks1_len (s : Int) (n : Nat) : (marks1 s n).length = n := by simp [marks1]
theorem marks3_at {s : Int} {n k : Nat} (h : k < n) : (marks3 s n)[k]? = some ⟨s + 3 * (k : Int), s + 3 * (k : Int) + 1, s + 3 * (k : Int) + 1 + 1⟩ := by simp [marks3, h]
theorem marks1_at {s : Int} {n k : Nat} (h : k < n) : (marks1 s n)[k]? = some (s + (k : Int)) := by simp [marks1, h]
theorem set_mid {α : Type} (ys : List α) (xs : List α) (p q : α) (r : List α) (h : xs = p :: r) : (ys ++ xs).set ys.length q = (ys ++ [q]) ++ r := by subst h; simp
theorem fill_step {α : Type} (z : α) {xs : List α} {k : Nat} {p : α} (h : xs[k]? = some p) : (xs.take k ++ List.replicate (xs.length - k) z).set k p = xs.take (k + 1) ++ List.replicate (xs.length - (k + 1)) z := by
  have hk : k < xs.length := (List.getElem?_eq_some_iff.1 h).1
  have e : xs.length - k = (xs.length - (k + 1)) + 1 := by omega
  have h1 := set_mid (xs.take k) (List.replicate (xs.length - k) z) z p (List.replicate (xs.length - (k + 1)) z) (by rw [e, List.replicate_succ])
  rw [List.length_take, Nat.min_eq_left (Nat.le_of_lt hk)] at h1
  rw [h1, take_next h]
theorem fill_at {α : Type} (z : α) {xs : List α} {k : Nat} (h : k < xs.length) : (xs.take k ++ List.replicate (xs.length - k) z)[k]? = some z := by
  rw [List.getElem?_append_right (by simp; omega), List.length_take, Nat.min_eq_left (Nat.le_of_lt h), Nat.sub_self, List.getElem?_replicate, if_pos (by omega)]
theorem fill_len {α : Type} (z : α) {xs : List α} {k : Nat} (h : k ≤ xs.length) : (xs.take k ++ List.replicate (xs.length - k) z).length = xs.length := by
  simp; omega
theorem marks3_step (s : Int) (xs : List T3) (k : Nat) (h : k < xs.length) : (marks3 s k ++ xs.drop k).set k ⟨s + 3 * (k : Int), s + 3 * (k : Int) + 1, s + 3 * (k : Int) + 1 + 1⟩ = marks3 s (k + 1) ++ xs.drop (k + 1) := by
  have h1 := set_mid (marks3 s k) (xs.drop k) _ ⟨s + 3 * (k : Int), s + 3 * (k : Int) + 1, s + 3 * (k : Int) + 1 + 1⟩ _ (List.drop_eq_getElem_cons h)
  rw [marks3_len] at h1
  rw [h1]
  simp [marks3, List.range_succ]
theorem marks1_step (s : Int) (xs : List Int) (k : Nat) (h : k < xs.length) : (marks1 s k ++ xs.drop k).set k (s + (k : Int)) = marks1 s (k + 1) ++ xs.drop (k + 1) := by
  have h1 := set_mid (marks1 s k) (xs.drop k) _ (s + (k : Int)) _ (List.drop_eq_getElem_cons h)
  rw [marks1_len] at h1
  rw [h1]
  simp [marks1, List.range_succ]
theorem one_int (k : IntKind) (n : Int) : (Value.int k n).oneCell' = true := rfl
end Go.Proofs.YtgjllminidlolaaGreatDoor
/- Contracts: the reader of codes: l6Open and pick. -/
set_option linter.unusedVariables false
namespace Go.Proofs.YtgjllminidlolaaGreatDoor
open Go.RowKit

def encU (x : Int) : List Value := [.int .u8 x]
def Bytes (bs : List Int) : Prop := ∀ v ∈ bs, 0 ≤ v ∧ v ≤ 255
/-- Block R is a reader of a code that has read at most m times. -/
def RdAt (w : World) (R m : Nat) : Prop :=
  ∃ (p : Nat) (A : Option Addr) (n c : Nat) (bs : List Int), p ≤ m ∧ R < w.heap.size ∧ w.cell? ⟨R, 0, none⟩ = some (.slice A n c) ∧ w.cell? ⟨R, 1, none⟩ = some (.int .i64 p) ∧ (∀ j, w.frozen? ⟨R, j, none⟩ = false) ∧
    SlE 1 encU w A n bs ∧ n ≤ 2000 ∧ Bytes bs ∧ (0 < n → ∀ b off, A = some ⟨b, off, none⟩ → b < R)
theorem RdAt.lt {w : World} {R m : Nat} (h : RdAt w R m) : R < w.heap.size := by
  obtain ⟨p, A, n, c, bs, h1, h2, _⟩ := h
  exact h2
theorem RdAt.mono {w : World} {R m m' : Nat} (h : RdAt w R m) (hm : m ≤ m') : RdAt w R m' := by
  obtain ⟨p, A, n, c, bs, h1, h2⟩ := h
  exact ⟨p, A, n, c, bs, Nat.le_trans h1 hm, h2⟩
/-- What grows beyond the reader leaves it. -/
theorem RdAt.grown {w w' : World} {R m : Nat} {row : Option Nat} (h : RdAt w R m) (hg : w.grownBy w' row) (hr : ∀ j, row = some j → R < j) : RdAt w' R m := by
  obtain ⟨p, A, n, c, bs, h1, h2, h3, h4, h5, h6, h7, h8, h9⟩ := h
  have hb : ∀ b, b < w.heap.size → b ≤ R → w'.heap[b]? = w.heap[b]? := fun b hlt hle => hg.block b hlt (fun e => by have := hr b e.symm; omega)
  have hc : ∀ j, w'.cell? ⟨R, j, none⟩ = w.cell? ⟨R, j, none⟩ := fun j => by unfold World.cell?; rw [hb R h2 (Nat.le_refl _)]
  have hf : ∀ j, w'.frozen? ⟨R, j, none⟩ = w.frozen? ⟨R, j, none⟩ := fun j => by unfold World.frozen?; rw [hb R h2 (Nat.le_refl _)]
  refine ⟨p, A, n, c, bs, h1, Nat.lt_of_lt_of_le h2 hg.size, (hc 0).trans h3, (hc 1).trans h4, fun j => (hf j).trans (h5 j), ⟨h6.1, fun hn => ?_⟩, h7, h8, h9⟩
  obtain ⟨b, off, hA, hlt, hcc⟩ := h6.2 hn
  refine ⟨b, off, hA, Nat.lt_of_lt_of_le hlt hg.size, fun j q hj i v hv => ?_⟩
  have hbr := h9 hn b off hA
  have := hcc j q hj i v hv
  unfold World.cell? at this ⊢
  rw [hb b hlt (Nat.le_of_lt hbr)]
  exact this
theorem RdAt.below {w w' : World} {R m B : Nat} (h : RdAt w R m) (hb : Below B w w') (hB : w.heap.size ≤ B) : RdAt w' R m :=
  h.grown (row := none) ⟨hb.os, hb.tape, hb.output, hb.size, fun j hj _ => hb.block j (by omega)⟩ (fun j hj => by cases hj)
theorem grown_below {w a b : World} {row : Option Nat} (h : w.grownBy a row) (hb : Below a.heap.size a b) : w.grownBy b row :=
  ⟨hb.os.trans h.os, hb.tape.trans h.tape, hb.output.trans h.output, Nat.le_trans h.size hb.size, fun j hj hr => (hb.block j (Nat.lt_of_lt_of_le hj h.size)).trans (h.block j hj hr)⟩
theorem grown_own {w a b : World} {row : Option Nat} {v : Value} (h : w.grownBy a row) (hg : a.grownBy b v.ownBlock) (ho : ∀ j, v.ownBlock = some j → w.heap.size ≤ j) : w.grownBy b row :=
  ⟨hg.os.trans h.os, hg.tape.trans h.tape, hg.output.trans h.output, Nat.le_trans h.size hg.size, fun j hj hr => (hg.block j (Nat.lt_of_lt_of_le hj h.size) (fun e => by have := ho j e.symm; omega)).trans (h.block j hj hr)⟩
theorem grown_drewN' {w w' : World} {row : Option Nat} (h : w.grownBy w' row) (n : Nat) : w.grownBy (w'.drewN n) row := ⟨h.os, h.tape, h.output, h.size, h.block⟩

/-- How a pick ends: a number from 0 to n - 1, or 0. -/
def Picked (w : World) (R m : Nat) (n : Int) (e : Ending) (w' : World) : Prop :=
  ∃ x : Int, e = .returned (.int .i64 x) ∧ 0 ≤ x ∧ (1 ≤ n → x < n) ∧ (n < 1 → x = 0) ∧ RdAt w' R (m + 1) ∧ w.grownBy w' (some R)

theorem xor_bd {x y : Int} (hx : 0 ≤ x) (hx' : x < 1099511627776) (hy : 0 ≤ y) (hy' : y < 1099511627776) : 0 ≤ bits .xor .i64 x y ∧ bits .xor .i64 x y < 1099511627776 := by
  obtain ⟨a, rfl⟩ : ∃ n : Nat, x = n := ⟨x.toNat, by omega⟩
  obtain ⟨b, rfl⟩ : ∃ n : Nat, y = n := ⟨y.toNat, by omega⟩
  have ha : a < 2 ^ 40 := by omega
  have hb : b < 2 ^ 40 := by omega
  have hxor := Nat.xor_lt_two_pow ha hb
  have e : bits .xor .i64 (a : Int) (b : Int) = IntKind.i64.wrap (((BitVec.ofInt 64 (a : Int)) ^^^ (BitVec.ofInt 64 (b : Int))).toNat : Int) := rfl
  rw [e]
  have e2 : ((BitVec.ofInt 64 (a : Int)) ^^^ (BitVec.ofInt 64 (b : Int))).toNat = a ^^^ b := by
    rw [BitVec.toNat_xor, BitVec.ofInt_natCast, BitVec.ofInt_natCast, BitVec.toNat_ofNat, BitVec.toNat_ofNat, Nat.mod_eq_of_lt (by omega), Nat.mod_eq_of_lt (by omega)]
  rw [e2, IntWalk.i64_in _ (by omega)]
  omega

/-- Behind a step of the reader. -/
theorem rd_step {w : World} {R m p : Nat} {A : Option Addr} {l c : Nat} {bs : List Int} (h1 : p ≤ m) (h2 : R < w.heap.size) (h3 : w.cell? ⟨R, 0, none⟩ = some (.slice A l c)) (h4 : w.cell? ⟨R, 1, none⟩ = some (.int .i64 p)) (h5 : ∀ j, w.frozen? ⟨R, j, none⟩ = false)
    (h6 : SlE 1 encU w A l bs) (h7 : l ≤ 2000) (h8 : Bytes bs) (h9 : 0 < l → ∀ b off, A = some ⟨b, off, none⟩ → b < R) :
    RdAt (w.setCell ⟨R, 1, none⟩ (.int .i64 ((p : Int) + 1))) R (m + 1) ∧ w.grownBy (w.setCell ⟨R, 1, none⟩ (.int .i64 ((p : Int) + 1))) (some R) ∧ SlE 1 encU (w.setCell ⟨R, 1, none⟩ (.int .i64 ((p : Int) + 1))) A l bs := by
  have hg : w.grownBy (w.setCell ⟨R, 1, none⟩ (.int .i64 ((p : Int) + 1))) (some R) := ⟨rfl, rfl, rfl, by simp, fun j hj hne => Below.heap_setCell w _ _ j (fun e => hne (by rw [e]))⟩
  have hs : SlE 1 encU (w.setCell ⟨R, 1, none⟩ (.int .i64 ((p : Int) + 1))) A l bs := ⟨h6.1, fun hn => by
    obtain ⟨b, off, hA, hlt, hcc⟩ := h6.2 hn
    have hbr := h9 hn b off hA
    refine ⟨b, off, hA, Nat.lt_of_lt_of_le hlt hg.size, fun j q hj i v hv => ?_⟩
    exact (World.cell?_setCell_other (w := w) (a := ⟨R, 1, none⟩) (b := ⟨b, off + (j * 1 + i), none⟩) (v := .int .i64 ((p : Int) + 1)) (by intro e; injection e with e1; omega)).trans (hcc j q hj i v hv)⟩
  refine ⟨⟨p + 1, A, l, c, bs, by omega, Nat.lt_of_lt_of_le h2 hg.size, ?_, ?_, fun j => ?_, hs, h7, h8, h9⟩, hg, hs⟩
  · exact (World.cell?_setCell_other (w := w) (a := ⟨R, 1, none⟩) (b := ⟨R, 0, none⟩) (v := .int .i64 ((p : Int) + 1)) (by intro e; injection e with e1 e2; omega)).trans h3
  · exact World.cell?_setCell_same (w := w) (a := ⟨R, 1, none⟩) (v := .int .i64 ((p : Int) + 1)) h4
  · rw [World.frozen?_setCell]; exact h5 j
theorem atU {w : World} {A : Option Addr} {n : Nat} {xs : List Int} (h : SlE 1 encU w A n xs) (hb : Bytes xs) {j : Nat} (hj : j < n) :
    ∃ b off x, A = some ⟨b, off, none⟩ ∧ w.cell? ⟨b, off + j, none⟩ = some (.int .u8 x) ∧ 0 ≤ x ∧ x ≤ 255 := by
  obtain ⟨b, off, x, hA, hlt, hx, hd, hc⟩ := h.at_ hj
  have := hb x (mem_at hx)
  exact ⟨b, off, x, hA, by have := hc 0 _ rfl; simpa using this, this.1, this.2⟩

set_option maxRecDepth 20000 in
set_option maxHeartbeats 3200000 in
theorem pick_any (R m : Nat) (n : Int) (w : World) (h : RdAt w R m) (hm : m ≤ 100000) (hn : n ≤ 100000) :
    Calls Tryz.prog 32 #[.pointer (some ⟨R, 0, none⟩), .int .i64 n] w (Picked w R m n) := by
  obtain ⟨p, A, l, c, bs, h1, h2, h3, h4, h5, h6, h7, h8, h9⟩ := h
  obtain ⟨hrd, hgr, hsl⟩ := rd_step h1 h2 h3 h4 h5 h6 h7 h8 h9
  have HRD := Lib.hid hrd
  have HGR := Lib.hid hgr
  have HSL := Lib.hid hsl
  have H8 := Lib.hid h8
  clear hrd hgr hsl h6 h8 h9
  by_cases hn1 : n < 1
  · go_enter Tryz.func32, Tryz.ntmps32
    go_wp2
    go_ret
    exact ⟨0, rfl, by omega, fun h => by omega, fun _ => rfl, HRD.out, HGR.out⟩
  by_cases hl0 : l = 0
  · subst hl0
    go_enter Tryz.func32, Tryz.ntmps32
    go_wp2
    go_ret
    exact ⟨0, rfl, by omega, fun h => by omega, fun h => rfl, HRD.out, HGR.out⟩
  have hl1 : 0 < l := by omega
  have hl2 : ((l : Int) == 0) = false := by simp; omega
  have hn2 : 1 ≤ n := by omega
  have x1 : IntKind.i64.wrap ((p : Int) + 1 - 1) = (p : Int) := by rw [IntWalk.i64_in _ (by omega)]; omega
  by_cases hpl : p < l
  · obtain ⟨b, off, x, rfl, hx, hx0, hx1⟩ := atU HSL.out H8.out hpl
    clear hn1 hl0
    go_enter Tryz.func32, Tryz.ntmps32
    go_wp2
    go_ret
    exact ⟨x % n, rfl, Int.emod_nonneg _ (by omega), fun _ => Int.emod_lt_of_pos _ (by omega), fun h => by omega, HRD.out, HGR.out⟩
  · have hpl' : (l : Int) ≤ (p : Int) := by omega
    obtain ⟨i1, hi1, e1⟩ : ∃ i1 : Nat, i1 < l ∧ (p : Int) % (l : Int) = i1 := ⟨p % l, Nat.mod_lt _ hl1, by rw [Int.natCast_emod]⟩
    obtain ⟨i2, hi2, e2⟩ : ∃ i2 : Nat, i2 < l ∧ ((p : Int) * 7 + 3) % (l : Int) = i2 := ⟨(p * 7 + 3) % l, Nat.mod_lt _ hl1, by rw [Int.natCast_emod]; congr 1⟩
    obtain ⟨b, off, v1, rfl, hv1, hv10, hv11⟩ := atU HSL.out H8.out hi1
    obtain ⟨b', off', v2, hA, hv2, hv20, hv21⟩ := atU HSL.out H8.out hi2
    injection hA with hA
    injection hA with ea eb
    subst ea eb
    have hq0 : 0 ≤ (p : Int) / (l : Int) := Int.ediv_nonneg (by omega) (by omega)
    have hq1 : (p : Int) / (l : Int) ≤ (p : Int) := Int.ediv_le_self _ (by omega)
    have hp0 : (0 : Int) ≤ (p : Int) := by omega
    have hpm : (p : Int) ≤ 100000 := by omega
    have a1 : IntKind.i64.wrap (v1 * 131) = v1 * 131 := IntWalk.i64_in _ (by omega)
    have a2 : IntKind.i64.wrap ((p : Int) * 7) = (p : Int) * 7 := IntWalk.i64_in _ (by omega)
    have a3 : IntKind.i64.wrap ((p : Int) * 7 + 3) = (p : Int) * 7 + 3 := IntWalk.i64_in _ (by omega)
    have a4 : IntKind.i64.wrap (v2 * 1117) = v2 * 1117 := IntWalk.i64_in _ (by omega)
    have a5 : IntKind.i64.wrap (v1 * 131 + v2 * 1117) = v1 * 131 + v2 * 1117 := IntWalk.i64_in _ (by omega)
    have a6 : IntKind.i64.wrap ((p : Int) * 29) = (p : Int) * 29 := IntWalk.i64_in _ (by omega)
    have a7 : IntKind.i64.wrap (v1 * 131 + v2 * 1117 + (p : Int) * 29) = v1 * 131 + v2 * 1117 + (p : Int) * 29 := IntWalk.i64_in _ (by omega)
    generalize hq : (p : Int) / (l : Int) = q at *
    have a8 : IntKind.i64.wrap (q * 53) = q * 53 := IntWalk.i64_in _ (by omega)
    have a9 : IntKind.i64.wrap (v1 * 131 + v2 * 1117 + (p : Int) * 29 + q * 53) = v1 * 131 + v2 * 1117 + (p : Int) * 29 + q * 53 := IntWalk.i64_in _ (by omega)
    have hT0 : 0 ≤ v1 * 131 + v2 * 1117 + (p : Int) * 29 + q * 53 := by omega
    have hT1 : v1 * 131 + v2 * 1117 + (p : Int) * 29 + q * 53 < 1099511627776 := by omega
    have i10 : (0 : Int) ≤ (i1 : Int) := by omega
    have i11 : (i1 : Int) < (l : Int) := by omega
    have i20 : (0 : Int) ≤ (i2 : Int) := by omega
    have i21 : (i2 : Int) < (l : Int) := by omega
    clear hn1 hl0
    go_enter Tryz.func32, Tryz.ntmps32
    go_wp2_with fail
    go_quiet (fail)
    have HRDq : Hid (RdAt ((w.setCell ⟨R, 1, none⟩ (.int .i64 ((p : Int) + 1))).drewN nq) R (m + 1)) := HRD.out
    have HGRq := Lib.hid (grown_drewN' HGR.out nq)
    clear a1 a2 a3 a4 a5 a6 a7 a8 a9 hv1 hv2 e1 e2 hq
    generalize v1 * 131 + v2 * 1117 + (p : Int) * 29 + q * 53 = T at *
    have hX := xor_bd hT0 hT1 (show 0 ≤ T / 64 by omega) (by omega)
    obtain ⟨hX0, hX1⟩ := hX
    go_wp2
    go_ret
    exact ⟨bits .xor .i64 T (T / 64) % n, rfl, Int.emod_nonneg _ (by omega), fun _ => Int.emod_lt_of_pos _ (by omega), fun h => by omega, HRDq.out, HGRq.out⟩

/-- How l6Open ends. -/
def Opened (w : World) (e : Ending) (w' : World) : Prop := e = .returned (.pointer (some ⟨w.heap.size, 0, none⟩)) ∧ RdAt w' w.heap.size 0 ∧ Below w.heap.size w w' ∧ w.heap.size < w'.heap.size
set_option maxRecDepth 20000 in
set_option maxHeartbeats 1600000 in
theorem l6Open_any (A : Option Addr) (n c : Nat) (bs : List Int) (w : World) (h : SlE 1 encU w A n bs) (hb : Bytes bs) (hn : n ≤ 1048576) (hc : n ≤ c) :
    Calls Tryz.prog 31 #[.slice A n c] w (Opened w) := by
  have key : ∀ (n' c' : Nat) (bs' : List Int), SlE 1 encU w A n' bs' → n' ≤ 2000 → Bytes bs' → RdAt (w.alloc (.cells #[.slice A n' c', .int .i64 0] 105)) w.heap.size 0 := fun n' c' bs' h' hn' hb' => by
    have hz := heap_alloc_new w (.cells #[.slice A n' c', .int .i64 0] 105)
    refine ⟨0, A, n', c', bs', Nat.le_refl _, by simp, cell_of_row _ _ 0 _ _ _ hz, cell_of_row _ _ 1 _ _ _ hz, fun j => frozen_of_row _ _ j _ _ hz, h'.alloc _, hn', hb', fun h0 b off hA => ?_⟩
    obtain ⟨b', off', hA', hlt, _⟩ := h'.2 h0
    rw [hA] at hA'
    injection hA' with hA'
    injection hA' with e1 e2
    omega
  have HK := Lib.hid key
  have H := Lib.hid h
  have HB := Lib.hid hb
  clear key h hb
  by_cases h2 : n ≤ 2000
  · have h2' : (n : Int) ≤ 2000 := by omega
    go_enter Tryz.func31, Tryz.ntmps31
    go_wp2
    go_ret
    exact ⟨rfl, HK.out n c bs H.out h2 HB.out, below_alloc (Below.refl _ _) _, by simp⟩
  · have h2' : (2000 : Int) < (n : Int) := by omega
    have h3' : (2000 : Int) ≤ (c : Int) := by omega
    have HT : Hid (SlE 1 encU w A 2000 (bs.take 2000)) := ⟨by rw [List.length_take, H.out.len]; omega, fun _ => by
      obtain ⟨b, off, hA, hlt, hc⟩ := H.out.2 (by omega)
      exact ⟨b, off, hA, hlt, fun i p hp => hc i p (by rw [List.getElem?_take] at hp; split at hp; exact hp; cases hp)⟩⟩
    have HBT : Hid (Bytes (bs.take 2000)) := fun v hv => HB.out v (List.mem_of_mem_take hv)
    go_enter Tryz.func31, Tryz.ntmps31
    go_wp2
    go_ret
    exact ⟨rfl, HK.out 2000 c _ HT.out (by omega) HBT.out, below_alloc (Below.refl _ _) _, by simp⟩
end Go.Proofs.YtgjllminidlolaaGreatDoor
/- append(v, x) as a step of a walk, with where the new slice lies. -/
set_option linter.unusedVariables false
namespace Go.Proofs.YtgjllminidlolaaGreatDoor
open Go.RowKit

theorem wpList_push_at {P : Program} {α : Type} {ops : Array Oper} {rest : List Oper} {o : Oper} {a : Act} {Q : Exit → Act → World → Prop} {W : World}
    (k bytes ty : Nat) (enc : α → List Value) (hk : ∀ x, (enc x).length = k) (h1 : ∀ x, ∀ u ∈ enc x, u.oneCell' = true) (hk0 : 0 < k) (x : α) (cs : Array Value) (tb : TypeId) (hcs : cs.toList = enc x)
    (hgd : o.guard = none) (s y : Operand) (t : TypeId) (ho : o.op = .call { callee := .builtin .append, args := #[s, y], argTypes := #[t, t] })
    (ht : P.underlying t = some (.slice ty)) {z : Value} (hinfo : (P.info? ty).map (fun i => (i.zero, i.size, i.bytes)) = some (some z, k, bytes)) (hz : z.cells.size = k)
    (base : Nat) (v : Value) (xs : List α) (hs : a.eval s = v) {g : Nat} (hy : a.eval y = .slice (some ⟨g, 0, none⟩) 1 1) (hg : g = W.heap.size) (hown : OwnE k enc ty base W v xs)
    (hbytes : (xs.length + 1) * bytes ≤ 140737488355328) (h63 : xs.length + 1 ≤ maxLen) (hbase : base ≤ W.heap.size)
    (h : ∀ v' w', OwnE k enc ty base w' v' (xs ++ [x]) → W.grownBy w' v.ownBlock → (v'.ownBlock = v.ownBlock ∨ v'.ownBlock = some (W.heap.size + 1)) → wpList P ops Q rest (a.put o.dst v') w') :
    wpList P ops Q (o :: rest) a (W.alloc (.cells cs tb)) := by
  subst hg
  obtain ⟨i0, hi, hz0, hz1, hz2⟩ := info_parts hinfo
  refine wpList_append_own_at _ hgd s y t ho base ty i0 z k bytes ht hi hz0 hz1 hz2 hz hk0 v xs.length (xs.flatMap enc) hs (World.ownsRow.alloc hown _) ⟨W.heap.size, 0, none⟩ 1 1 (enc x) hy (by rw [hk]; omega) ?_ (h1 x) h63 hbytes (by simp; omega) ?_
  · intro j u hj
    have : (cs.toList)[j]? = some u := by rw [hcs]; exact hj
    exact World.news_of_block (heap_alloc_new W _) j u this
  · intro v' w' hown' hg _ hl
    refine h v' w' ?_ ⟨hg.os, hg.tape, hg.output, Nat.le_trans (by simp) hg.size, fun j hj hne => (hg.block j (by simp; omega) hne).trans (Below.heap_alloc W _ j hj)⟩ (by simpa using hl)
    have e : (xs ++ [x]).flatMap enc = xs.flatMap enc ++ enc x := by simp
    unfold OwnE
    rw [e, List.length_append]
    exact hown'
/-- A cell stays where another row grows. -/
theorem grown_cell {w w' : World} {row : Option Nat} {g j : Nat} (h : w.grownBy w' row) (hg : g < w.heap.size) (hne : row ≠ some g) : w'.cell? ⟨g, j, none⟩ = w.cell? ⟨g, j, none⟩ := by
  unfold World.cell?
  rw [h.block g hg (fun e => hne e.symm)]
theorem away_next {v v' : Value} {g n : Nat} (h : v.ownBlock ≠ some g) (hl : v'.ownBlock = v.ownBlock ∨ v'.ownBlock = some n) (hg : g < n) : v'.ownBlock ≠ some g := by
  rcases hl with hl | hl
  · rw [hl]; exact h
  · rw [hl]; intro e; injection e with e; omega
end Go.Proofs.YtgjllminidlolaaGreatDoor
/- Bookings in memory: an element in three cells, the last of them a bool. -/
set_option linter.unusedVariables false
namespace Go.Proofs.YtgjllminidlolaaGreatDoor
open Go.RowKit

def encB (p : B3) : List Value := [.int .i64 p.a, .int .i64 p.b, .bool p.c]
theorem encB_len (p : B3) : (encB p).length = 3 := rfl
theorem encB_one (p : B3) : ∀ u ∈ encB p, u.oneCell' = true := by
  intro u hu
  simp only [encB, List.mem_cons, List.not_mem_nil, or_false] at hu
  rcases hu with rfl | rfl | rfl <;> rfl
/-- A booking of a slice, in a later world. -/
theorem atB {w wr : World} {A : Option Addr} {n : Nat} {xs : List B3} (h : SlE 3 encB w A n xs) (hb : Below w.heap.size w wr) {j : Nat} (hj : j < n) :
    ∃ b off x y z, A = some ⟨b, off, none⟩ ∧ b < wr.heap.size ∧ xs[j]? = some ⟨x, y, z⟩ ∧ xs.drop j = ⟨x, y, z⟩ :: xs.drop (j + 1) ∧
      wr.cell? ⟨b, off + j * 3, none⟩ = some (.int .i64 x) ∧ wr.cell? ⟨b, off + j * 3 + 1, none⟩ = some (.int .i64 y) ∧ wr.cell? ⟨b, off + j * 3 + 2, none⟩ = some (.bool z) := by
  obtain ⟨b, off, ⟨x, y, z⟩, hA, hlt, hx, hd, hc⟩ := (h.below hb).at_ hj
  exact ⟨b, off, x, y, z, hA, hlt, hx, hd, hc 0 _ rfl, hc 1 _ rfl, hc 2 _ rfl⟩
/-- The same, with what keeps the cells. -/
theorem atBk {w wr : World} {A : Option Addr} {n : Nat} {xs : List B3} (h : SlE 3 encB w A n xs) (hb : Below w.heap.size w wr) {j : Nat} (hj : j < n) :
    ∃ b off x y z, A = some ⟨b, off, none⟩ ∧ xs[j]? = some ⟨x, y, z⟩ ∧
      (∀ w', Below w.heap.size w w' → w'.cell? ⟨b, off + j * 3, none⟩ = some (.int .i64 x) ∧ w'.cell? ⟨b, off + j * 3 + 1, none⟩ = some (.int .i64 y) ∧ w'.cell? ⟨b, off + j * 3 + 2, none⟩ = some (.bool z)) := by
  obtain ⟨b, off, ⟨x, y, z⟩, hA, hlt, hx, hd, hc⟩ := h.at_ hj
  exact ⟨b, off, x, y, z, hA, hx, fun w' hw => ⟨(hw.cell (p := ⟨b, _, none⟩) hlt).trans (hc 0 _ rfl), (hw.cell (p := ⟨b, _, none⟩) hlt).trans (hc 1 _ rfl), (hw.cell (p := ⟨b, _, none⟩) hlt).trans (hc 2 _ rfl)⟩⟩
theorem OwnE.cellB {ty base : Nat} {w : World} {g c n : Nat} {xs : List B3} (h : OwnE 3 encB ty base w (.slice (some ⟨g, 0, none⟩) n c) xs) {j : Nat} {x y : Int} {z : Bool} (hp : xs[j]? = some ⟨x, y, z⟩) :
    w.cell? ⟨g, j * 3, none⟩ = some (.int .i64 x) ∧ w.cell? ⟨g, j * 3 + 1, none⟩ = some (.int .i64 y) ∧ w.cell? ⟨g, j * 3 + 2, none⟩ = some (.bool z) :=
  ⟨OwnE.cell encB_len h hp (i := 0) rfl, OwnE.cell encB_len h hp (i := 1) rfl, OwnE.cell encB_len h hp (i := 2) rfl⟩
end Go.Proofs.YtgjllminidlolaaGreatDoor
