/- What the proofs of this seat share: readings of slices as lists, ends of calls, and small facts on worlds. No statement of the seat is proved here. -/
import Derived.Test.YtgjllminidlolaaGreatDoorChecked
import Derived.WalkKit
import Derived.WalkSpells
import Derived.WalkLawsBesides
import Derived.Lib.Hide
import Derived.Test.YtgjllminidlolaaGreatDoorPlains
set_option linter.unusedVariables false
namespace Go.Proofs.YtgjllminidlolaaGreatDoor
open Go.RowKit

def encI (x : Int) : List Value := [.int .i64 x]
def enc3 (p : T3) : List Value := [.int .i64 p.a, .int .i64 p.b, .int .i64 p.c]
def enc4 (p : P4) : List Value := [.int .i64 p.a, .int .i64 p.b, .int .i64 p.i, .int .i64 p.c]
theorem enc4_len (x : P4) : (enc4 x).length = 4 := rfl
theorem encI_one (x : Int) : ∀ u ∈ encI x, u.oneCell' = true := by intro u hu; simp [encI] at hu; subst hu; rfl
theorem enc3_one (x : T3) : ∀ u ∈ enc3 x, u.oneCell' = true := by intro u hu; simp [enc3] at hu; rcases hu with rfl | rfl | rfl <;> rfl
theorem enc4_one (x : P4) : ∀ u ∈ enc4 x, u.oneCell' = true := by intro u hu; simp [enc4] at hu; rcases hu with rfl | rfl | rfl | rfl <;> rfl
theorem encI_len (x : Int) : (encI x).length = 1 := rfl
theorem enc3_len (x : T3) : (enc3 x).length = 3 := rfl

/-- How a call ends: it returns v and the world is as it was. -/
def Same (v : Value) (w : World) (e : Ending) (w' : World) : Prop := e = .returned v ∧ w = w'
/-- How a call ends: it returns v; what was in memory is as it was. -/
def Only (v : Value) (w : World) (e : Ending) (w' : World) : Prop := e = .returned v ∧ Below w.heap.size w w'
theorem Same.only {v : Value} {w w' : World} {e : Ending} (h : Same v w e w') : Only v w e w' := ⟨h.1, h.2 ▸ Below.refl _ _⟩
/-- How a call ends: it returns a bool that says whether p holds; the world is as it was. -/
def SameB (p : Prop) (w : World) (e : Ending) (w' : World) : Prop := ∃ b : Bool, e = .returned (.bool b) ∧ (b = true ↔ p) ∧ w = w'
/-- The same; what was in memory is as it was. -/
def OnlyB (p : Prop) (w : World) (e : Ending) (w' : World) : Prop := ∃ b : Bool, e = .returned (.bool b) ∧ (b = true ↔ p) ∧ Below w.heap.size w w'
theorem SameB.yes {p : Prop} {w w' : World} {e : Ending} (h : SameB p w e w') (hp : p) : Same (.bool true) w e w' := by
  obtain ⟨b, rfl, hb, rfl⟩ := h
  rw [hb.2 hp]
  exact ⟨rfl, rfl⟩
theorem SameB.no {p : Prop} {w w' : World} {e : Ending} (h : SameB p w e w') (hp : ¬ p) : Same (.bool false) w e w' := by
  obtain ⟨b, rfl, hb, rfl⟩ := h
  cases b
  · exact ⟨rfl, rfl⟩
  · exact absurd (hb.1 rfl) hp
theorem OnlyB.yes {p : Prop} {w w' : World} {e : Ending} (h : OnlyB p w e w') (hp : p) : Only (.bool true) w e w' := by
  obtain ⟨b, rfl, hb, hw⟩ := h
  rw [hb.2 hp]
  exact ⟨rfl, hw⟩
theorem OnlyB.no {p : Prop} {w w' : World} {e : Ending} (h : OnlyB p w e w') (hp : ¬ p) : Only (.bool false) w e w' := by
  obtain ⟨b, rfl, hb, hw⟩ := h
  cases b
  · exact ⟨rfl, hw⟩
  · exact absurd (hb.1 rfl) hp
theorem SameB.cases {p : Prop} {w w' : World} {e : Ending} (h : SameB p w e w') : (e = .returned (.bool true) ∧ p ∧ w = w') ∨ (e = .returned (.bool false) ∧ ¬ p ∧ w = w') := by
  obtain ⟨b, rfl, hb, rfl⟩ := h
  cases b
  · exact .inr ⟨rfl, fun hp => Bool.noConfusion (hb.2 hp), rfl⟩
  · exact .inl ⟨rfl, hb.1 rfl, rfl⟩
theorem OnlyB.cases {p : Prop} {w w' : World} {e : Ending} (h : OnlyB p w e w') : (e = .returned (.bool true) ∧ p ∧ Below w.heap.size w w') ∨ (e = .returned (.bool false) ∧ ¬ p ∧ Below w.heap.size w w') := by
  obtain ⟨b, rfl, hb, hw⟩ := h
  cases b
  · exact .inr ⟨rfl, fun hp => Bool.noConfusion (hb.2 hp), hw⟩
  · exact .inl ⟨rfl, hb.1 rfl, hw⟩
theorem onlyB_true {p : Prop} {w w' : World} (hp : p) (h : Below w.heap.size w w') : OnlyB p w (.returned (.bool true)) w' := ⟨true, rfl, by simp [hp], h⟩
theorem onlyB_false {p : Prop} {w w' : World} (hp : ¬ p) (h : Below w.heap.size w w') : OnlyB p w (.returned (.bool false)) w' := ⟨false, rfl, by simp [hp], h⟩
theorem ret_int {k : IntKind} {a b : Int} (h : a = b) : Ending.returned (.int k a) = .returned (.int k b) := by rw [h]
theorem ret_bool {a b : Bool} (h : a = b) : Ending.returned (.bool a) = .returned (.bool b) := by rw [h]

theorem bcell {W w1 : World} (hb : Below W.heap.size W w1) : (∀ b o, b < W.heap.size → w1.cell? ⟨b, o, none⟩ = W.cell? ⟨b, o, none⟩) ∧ (∀ b o, b < W.heap.size → w1.frozen? ⟨b, o, none⟩ = W.frozen? ⟨b, o, none⟩) :=
  ⟨fun _ _ h => hb.cell h, fun _ _ h => hb.frozen h⟩
theorem below_trans {a b c : World} (h : Below a.heap.size a b) (k : Below b.heap.size b c) : Below a.heap.size a c := h.trans (k.mono h.size)
theorem below_drew {a b : World} (h : Below a.heap.size a b) : Below a.heap.size a b.drew := h.drew
theorem below_alloc {a b : World} (h : Below a.heap.size a b) (o : Obj) : Below a.heap.size a (b.alloc o) := h.alloc h.size o

/-- The slice value '.slice A n c' reads as the list xs, an element in k cells by enc. -/
def SlE {α : Type} (k : Nat) (enc : α → List Value) (w : World) (A : Option Addr) (n : Nat) (xs : List α) : Prop :=
  xs.length = n ∧ (0 < n → ∃ b off, A = some ⟨b, off, none⟩ ∧ b < w.heap.size ∧ ∀ j p, xs[j]? = some p → ∀ i v, (enc p)[i]? = some v → w.cell? ⟨b, off + (j * k + i), none⟩ = some v)

section
variable {α : Type} {k : Nat} {enc : α → List Value} {w w' : World} {A : Option Addr} {n : Nat} {xs : List α}
theorem SlE.len (h : SlE k enc w A n xs) : xs.length = n := h.1
theorem SlE.below (h : SlE k enc w A n xs) (hb : Below w.heap.size w w') : SlE k enc w' A n xs :=
  ⟨h.1, fun hn => by
    obtain ⟨b, off, hA, hlt, hc⟩ := h.2 hn
    exact ⟨b, off, hA, Nat.lt_of_lt_of_le hlt hb.size, fun j p hj i v hv => (hb.cell (p := ⟨b, _, none⟩) hlt).trans (hc j p hj i v hv)⟩⟩
theorem SlE.alloc (h : SlE k enc w A n xs) (o : Obj) : SlE k enc (w.alloc o) A n xs := h.below ((Below.refl _ _).alloc (Nat.le_refl _) o)
theorem SlE.drew (h : SlE k enc w A n xs) : SlE k enc w.drew A n xs := h
theorem SlE.drewN (h : SlE k enc w A n xs) (m : Nat) : SlE k enc (w.drewN m) A n xs := h
theorem SlE.nil_ : SlE k enc w A 0 ([] : List α) := ⟨rfl, fun h => absurd h (by omega)⟩
theorem SlE.empty (h : SlE k enc w A 0 xs) : xs = [] := List.eq_nil_of_length_eq_zero h.1
theorem SlE.at_ (h : SlE k enc w A n xs) {j : Nat} (hj : j < n) : ∃ b off p, A = some ⟨b, off, none⟩ ∧ b < w.heap.size ∧ xs[j]? = some p ∧ xs.drop j = p :: xs.drop (j + 1) ∧
    ∀ i v, (enc p)[i]? = some v → w.cell? ⟨b, off + (j * k + i), none⟩ = some v := by
  obtain ⟨b, off, hA, hlt, hc⟩ := h.2 (by omega)
  have hl : j < xs.length := by rw [h.1]; exact hj
  exact ⟨b, off, xs[j], hA, hlt, List.getElem?_eq_getElem hl, List.drop_eq_getElem_cons hl, hc j _ (List.getElem?_eq_getElem hl)⟩
end

/-- An element of a slice of three-cell structs, in a later world. -/
theorem at3 {w wr : World} {A : Option Addr} {n : Nat} {xs : List T3} (h : SlE 3 enc3 w A n xs) (hb : Below w.heap.size w wr) {j : Nat} (hj : j < n) :
    ∃ b off x y z, A = some ⟨b, off, none⟩ ∧ b < wr.heap.size ∧ xs[j]? = some ⟨x, y, z⟩ ∧ xs.drop j = ⟨x, y, z⟩ :: xs.drop (j + 1) ∧
      wr.cell? ⟨b, off + j * 3, none⟩ = some (.int .i64 x) ∧ wr.cell? ⟨b, off + j * 3 + 1, none⟩ = some (.int .i64 y) ∧ wr.cell? ⟨b, off + j * 3 + 2, none⟩ = some (.int .i64 z) := by
  obtain ⟨b, off, ⟨x, y, z⟩, hA, hlt, hx, hd, hc⟩ := (h.below hb).at_ hj
  exact ⟨b, off, x, y, z, hA, hlt, hx, hd, hc 0 _ rfl, hc 1 _ rfl, hc 2 _ rfl⟩
/-- The same, with what keeps the cells. -/
theorem at3k {w wr : World} {A : Option Addr} {n : Nat} {xs : List T3} (h : SlE 3 enc3 w A n xs) (hb : Below w.heap.size w wr) {j : Nat} (hj : j < n) :
    ∃ b off x y z, A = some ⟨b, off, none⟩ ∧ xs[j]? = some ⟨x, y, z⟩ ∧
      (∀ w', Below w.heap.size w w' → w'.cell? ⟨b, off + j * 3, none⟩ = some (.int .i64 x) ∧ w'.cell? ⟨b, off + j * 3 + 1, none⟩ = some (.int .i64 y) ∧ w'.cell? ⟨b, off + j * 3 + 2, none⟩ = some (.int .i64 z)) := by
  obtain ⟨b, off, ⟨x, y, z⟩, hA, hlt, hx, hd, hc⟩ := h.at_ hj
  exact ⟨b, off, x, y, z, hA, hx, fun w' hw => ⟨(hw.cell (p := ⟨b, _, none⟩) hlt).trans (hc 0 _ rfl), (hw.cell (p := ⟨b, _, none⟩) hlt).trans (hc 1 _ rfl), (hw.cell (p := ⟨b, _, none⟩) hlt).trans (hc 2 _ rfl)⟩⟩
/-- An element of a slice of four-cell structs, in a later world. -/
theorem at4 {w wr : World} {A : Option Addr} {n : Nat} {xs : List P4} (h : SlE 4 enc4 w A n xs) (hb : Below w.heap.size w wr) {j : Nat} (hj : j < n) :
    ∃ b off x y i z, A = some ⟨b, off, none⟩ ∧ b < wr.heap.size ∧ xs[j]? = some ⟨x, y, i, z⟩ ∧
      wr.cell? ⟨b, off + j * 4, none⟩ = some (.int .i64 x) ∧ wr.cell? ⟨b, off + j * 4 + 1, none⟩ = some (.int .i64 y) ∧
      wr.cell? ⟨b, off + j * 4 + 2, none⟩ = some (.int .i64 i) ∧ wr.cell? ⟨b, off + j * 4 + 3, none⟩ = some (.int .i64 z) := by
  obtain ⟨b, off, ⟨x, y, i, z⟩, hA, hlt, hx, hd, hc⟩ := (h.below hb).at_ hj
  exact ⟨b, off, x, y, i, z, hA, hlt, hx, hc 0 _ rfl, hc 1 _ rfl, hc 2 _ rfl, hc 3 _ rfl⟩
/-- An element of a slice of integers, in a later world. -/
theorem at1 {w wr : World} {A : Option Addr} {n : Nat} {xs : List Int} (h : SlE 1 encI w A n xs) (hb : Below w.heap.size w wr) {j : Nat} (hj : j < n) :
    ∃ b off x, A = some ⟨b, off, none⟩ ∧ b < wr.heap.size ∧ xs[j]? = some x ∧ xs.drop j = x :: xs.drop (j + 1) ∧ wr.cell? ⟨b, off + j, none⟩ = some (.int .i64 x) := by
  obtain ⟨b, off, x, hA, hlt, hx, hd, hc⟩ := (h.below hb).at_ hj
  exact ⟨b, off, x, hA, hlt, hx, hd, by have := hc 0 _ rfl; simpa using this⟩

/-- The elements' cells, one behind the other. -/
theorem flat_at {α : Type} {k : Nat} {enc : α → List Value} (hk : ∀ x, (enc x).length = k) : ∀ (xs : List α) (j : Nat) (p : α), xs[j]? = some p → ∀ i v, (enc p)[i]? = some v → (xs.flatMap enc)[j * k + i]? = some v
  | [], j, p, h, _, _, _ => by simp at h
  | x :: xs, 0, p, h, i, v, hv => by
    simp at h
    subst h
    have hi : i < (enc x).length := by
      rcases Nat.lt_or_ge i (enc x).length with hlt | hge
      · exact hlt
      · rw [List.getElem?_eq_none hge] at hv; cases hv
    simp only [List.flatMap_cons, Nat.zero_mul, Nat.zero_add]
    rw [List.getElem?_append_left hi, hv]
  | x :: xs, j + 1, p, h, i, v, hv => by
    simp only [List.getElem?_cons_succ] at h
    have := flat_at hk xs j p h i v hv
    simp only [List.flatMap_cons]
    rw [List.getElem?_append_right (by rw [hk, Nat.add_mul]; omega), hk, ← this]
    congr 1
    rw [Nat.add_mul]
    omega
theorem flat_len {α : Type} {k : Nat} {enc : α → List Value} (hk : ∀ x, (enc x).length = k) (xs : List α) : (xs.flatMap enc).length = xs.length * k := by
  induction xs with
  | nil => simp
  | cons x xs ih => simp only [List.flatMap_cons, List.length_append, List.length_cons, hk, ih, Nat.add_mul]; omega

/-- What a call owns reads as a list. -/
theorem sl_of_own {α : Type} {k : Nat} {enc : α → List Value} {w : World} {base : Nat} {e : TypeId} {v : Value} {n : Nat} {xs : List α} (hk : ∀ x, (enc x).length = k)
    (h : w.ownsRow base e k v n (xs.flatMap enc)) (hn : xs.length = n) : ∃ A c, v = .slice A n c ∧ SlE k enc w A n xs := by
  rcases h.2 with ⟨rfl, rfl⟩ | ⟨g, cap, cur, rfl, _, hh, _⟩
  · exact ⟨none, 0, rfl, hn, fun h => absurd h (by omega)⟩
  · refine ⟨_, cap, rfl, hn, fun hn0 => ⟨g, 0, rfl, (Array.getElem?_eq_some_iff.1 hh).1, fun j p hj i u hu => ?_⟩⟩
    have := h.cells (g := g) rfl (j * k + i) u (flat_at hk xs j p hj i u hu)
    rw [Addr.add] at this
    split at this
    · rename_i h0; rw [h0]; exact this
    · exact this
end Go.Proofs.YtgjllminidlolaaGreatDoor
