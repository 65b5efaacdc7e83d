/- Plain mathematics, with no program in sight. -/
set_option linter.unusedVariables false
namespace Go.Proofs.Ytcfdccjpbkcigaa
/-- Three integers: a parcel, a gate, a road. -/
structure T3 where
  a : Int
  b : Int
  c : Int
deriving DecidableEq, Inhabited

/-! ### Way-bills -/
/-- The load on a leg. -/
def load : List T3 → Int → Int
  | [], _ => 0
  | p :: xs, leg => (if p.a ≤ leg ∧ leg < p.b then p.c else 0) + load xs leg
/-- A parcel of a coach of n legs. -/
def OkP (n : Int) (p : T3) : Prop := 0 ≤ p.a ∧ p.a < p.b ∧ p.b ≤ n ∧ 1 ≤ p.c ∧ p.c ≤ 99
/-- A way-bill of a coach of n legs. -/
def BillOk (n : Int) (xs : List T3) : Prop := 1 ≤ n ∧ n ≤ 7 ∧ xs.length ≤ 12 ∧ (∀ p ∈ xs, OkP n p) ∧ ∀ leg : Nat, (leg : Int) < n → load xs leg ≤ 300
theorem bill_not {n : Int} {xs : List T3} {k : Nat} {x y z : Int} (h : xs[k]? = some ⟨x, y, z⟩) (hn : ¬ (0 ≤ x ∧ x < y ∧ y ≤ n ∧ 1 ≤ z ∧ z ≤ 99)) : ¬ BillOk n xs :=
  fun hB => hn (hB.2.2.2.1 _ (List.mem_of_getElem? h))
theorem bill_load {n : Int} {xs : List T3} {k : Nat} (hk : (k : Int) < n) (hl : 300 < load xs k) : ¬ BillOk n xs := fun hB => by
  have := hB.2.2.2.2 k hk
  omega
theorem allP_next {n : Int} {xs : List T3} {k : Nat} {x y z : Int} (h : xs[k]? = some ⟨x, y, z⟩) (ha : ∀ p ∈ xs.take k, OkP n p) (hn : 0 ≤ x ∧ x < y ∧ y ≤ n ∧ 1 ≤ z ∧ z ≤ 99) : ∀ p ∈ xs.take (k + 1), OkP n p := by
  intro p hp
  rw [List.take_add_one, h] at hp
  simp only [Option.toList, List.mem_append, List.mem_singleton] at hp
  rcases hp with hp | rfl
  · exact ha p hp
  · exact hn
theorem okP_w {n : Int} {xs : List T3} (h : ∀ p ∈ xs, OkP n p) : ∀ p ∈ xs, 0 ≤ p.c ∧ p.c ≤ 99 := fun p hp => by
  have := h p hp
  unfold OkP at this
  omega
theorem load_bd (xs : List T3) (leg : Int) (h : ∀ p ∈ xs, 0 ≤ p.c ∧ p.c ≤ 99) : 0 ≤ load xs leg ∧ load xs leg ≤ 99 * xs.length := by
  induction xs with
  | nil => simp [load]
  | cons p xs ih =>
    have h1 := ih fun q hq => h q (List.mem_cons_of_mem _ hq)
    have h2 := h p (List.mem_cons_self ..)
    simp only [load, List.length_cons]
    split <;> omega
theorem load_append (xs ys : List T3) (leg : Int) : load (xs ++ ys) leg = load xs leg + load ys leg := by
  induction xs with
  | nil => simp [load]
  | cons p xs ih => simp only [List.cons_append, load, ih]; omega
theorem take_next {α : Type} {xs : List α} {k : Nat} {p : α} (h : xs[k]? = some p) : xs.take (k + 1) = xs.take k ++ [p] := by
  rw [List.take_add_one, h]; rfl
theorem mem_at {α : Type} {xs : List α} {k : Nat} {p : α} (h : xs[k]? = some p) : p ∈ xs := List.mem_of_getElem? h
theorem load_next {xs : List T3} {k : Nat} {p : T3} (leg : Int) (h : xs[k]? = some p) : load (xs.take (k + 1)) leg = load (xs.take k) leg + if p.a ≤ leg ∧ leg < p.b then p.c else 0 := by
  rw [take_next h, load_append]; simp [load]
theorem mem_take_of {α : Type} {xs : List α} {k : Nat} {p : α} (h : p ∈ xs.take k) : p ∈ xs := List.mem_of_mem_take h

/-- A parcel of a way-bill with its index. -/
structure P4 where
  a : Int
  b : Int
  i : Int
  c : Int
deriving DecidableEq, Inhabited
def packs (xs : List T3) : List P4 := xs.mapIdx fun i p => ⟨p.a, p.b, i, p.c⟩
theorem packs_next {xs : List T3} {k : Nat} {p : T3} (h : xs[k]? = some p) : packs (xs.take (k + 1)) = packs (xs.take k) ++ [⟨p.a, p.b, k, p.c⟩] := by
  have hk : k < xs.length := (List.getElem?_eq_some_iff.1 h).1
  rw [take_next h]
  simp [packs, List.mapIdx_concat, Nat.min_eq_left (Nat.le_of_lt hk)]
theorem packs_len (xs : List T3) : (packs xs).length = xs.length := by simp [packs]
theorem packs_at {xs : List T3} {k : Nat} {q : P4} (h : (packs xs)[k]? = some q) : ∃ p, xs[k]? = some p ∧ q = ⟨p.a, p.b, k, p.c⟩ := by
  simp only [packs, List.getElem?_mapIdx, Option.map_eq_some_iff] at h
  obtain ⟨p, hp, rfl⟩ := h
  exact ⟨p, hp, rfl⟩
end Go.Proofs.Ytcfdccjpbkcigaa
