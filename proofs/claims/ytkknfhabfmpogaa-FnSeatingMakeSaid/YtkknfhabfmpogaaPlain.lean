/- Plain mathematics, with no program in sight. -/
set_option linter.unusedVariables false
namespace Go.Proofs.Ytkknfhabfmpogaa
/-- Three integers: a parcel, a gate, a road. -/
structure T3 where
  a : Int
  b : Int
  c : Int
deriving DecidableEq, Inhabited

/-! ### Way-bills -/
/-- The load on a leg. -/
def load : List T3 → Int → Int
  | [], _ => 0
  | p :: xs, leg => (if p.a ≤ leg ∧ leg < p.b then p.c else 0) + load xs leg
/-- A parcel of a coach of n legs. -/
def OkP (n : Int) (p : T3) : Prop := 0 ≤ p.a ∧ p.a < p.b ∧ p.b ≤ n ∧ 1 ≤ p.c ∧ p.c ≤ 99
/-- A way-bill of a coach of n legs. -/
def BillOk (n : Int) (xs : List T3) : Prop := 1 ≤ n ∧ n ≤ 7 ∧ xs.length ≤ 12 ∧ (∀ p ∈ xs, OkP n p) ∧ ∀ leg : Nat, (leg : Int) < n → load xs leg ≤ 300
theorem bill_not {n : Int} {xs : List T3} {k : Nat} {x y z : Int} (h : xs[k]? = some ⟨x, y, z⟩) (hn : ¬ (0 ≤ x ∧ x < y ∧ y ≤ n ∧ 1 ≤ z ∧ z ≤ 99)) : ¬ BillOk n xs :=
  fun hB => hn (hB.2.2.2.1 _ (List.mem_of_getElem? h))
theorem bill_load {n : Int} {xs : List T3} {k : Nat} (hk : (k : Int) < n) (hl : 300 < load xs k) : ¬ BillOk n xs := fun hB => by
  have := hB.2.2.2.2 k hk
  omega
theorem allP_next {n : Int} {xs : List T3} {k : Nat} {x y z : Int} (h : xs[k]? = some ⟨x, y, z⟩) (ha : ∀ p ∈ xs.take k, OkP n p) (hn : 0 ≤ x ∧ x < y ∧ y ≤ n ∧ 1 ≤ z ∧ z ≤ 99) : ∀ p ∈ xs.take (k + 1), OkP n p := by
  intro p hp
  rw [List.take_add_one, h] at hp
  simp only [Option.toList, List.mem_append, List.mem_singleton] at hp
  rcases hp with hp | rfl
  · exact ha p hp
  · exact hn
theorem okP_w {n : Int} {xs : List T3} (h : ∀ p ∈ xs, OkP n p) : ∀ p ∈ xs, 0 ≤ p.c ∧ p.c ≤ 99 := fun p hp => by
  have := h p hp
  unfold OkP at this
  omega
theorem load_bd (xs : List T3) (leg : Int) (h : ∀ p ∈ xs, 0 ≤ p.c ∧ p.c ≤ 99) : 0 ≤ load xs leg ∧ load xs leg ≤ 99 * xs.length := by
  induction xs with
  | nil => simp [load]
  | cons p xs ih =>
    have h1 := ih fun q hq => h q (List.mem_cons_of_mem _ hq)
    have h2 := h p (List.mem_cons_self ..)
    simp only [load, List.length_cons]
    split <;> omega
theorem load_append (xs ys : List T3) (leg : Int) : load (xs ++ ys) leg = load xs leg + load ys leg := by
  induction xs with
  | nil => simp [load]
  | cons p xs ih => simp only [List.cons_append, load, ih]; omega
theorem min_ite (s r : Int) : (if r < s then r else s) = min s r := by
  rw [Int.min_def]
  split <;> split <;> omega
theorem take_next {α : Type} {xs : List α} {k : Nat} {p : α} (h : xs[k]? = some p) : xs.take (k + 1) = xs.take k ++ [p] := by
  rw [List.take_add_one, h]; rfl
theorem mem_at {α : Type} {xs : List α} {k : Nat} {p : α} (h : xs[k]? = some p) : p ∈ xs := List.mem_of_getElem? h
theorem load_next {xs : List T3} {k : Nat} {p : T3} (leg : Int) (h : xs[k]? = some p) : load (xs.take (k + 1)) leg = load (xs.take k) leg + if p.a ≤ leg ∧ leg < p.b then p.c else 0 := by
  rw [take_next h, load_append]; simp [load]
theorem mem_take_of {α : Type} {xs : List α} {k : Nat} {p : α} (h : p ∈ xs.take k) : p ∈ xs := List.mem_of_mem_take h

/-- A parcel of a way-bill with its index. -/
structure P4 where
  a : Int
  b : Int
  i : Int
  c : Int
deriving DecidableEq, Inhabited
def packs (xs : List T3) : List P4 := xs.mapIdx fun i p => ⟨p.a, p.b, i, p.c⟩
theorem packs_next {xs : List T3} {k : Nat} {p : T3} (h : xs[k]? = some p) : packs (xs.take (k + 1)) = packs (xs.take k) ++ [⟨p.a, p.b, k, p.c⟩] := by
  have hk : k < xs.length := (List.getElem?_eq_some_iff.1 h).1
  rw [take_next h]
  simp [packs, List.mapIdx_concat, Nat.min_eq_left (Nat.le_of_lt hk)]
theorem packs_len (xs : List T3) : (packs xs).length = xs.length := by simp [packs]
theorem packs_at {xs : List T3} {k : Nat} {q : P4} (h : (packs xs)[k]? = some q) : ∃ p, xs[k]? = some p ∧ q = ⟨p.a, p.b, k, p.c⟩ := by
  simp only [packs, List.getElem?_mapIdx, Option.map_eq_some_iff] at h
  obtain ⟨p, hp, rfl⟩ := h
  exact ⟨p, hp, rfl⟩

/-! ### Pounds and room -/
def pound : List T3 → Int
  | [] => 0
  | p :: xs => p.c * (p.b - p.a) + pound xs
def sumTo (xs : List T3) : Nat → Int
  | 0 => 0
  | j + 1 => sumTo xs j + load xs j
def roomTo (xs : List T3) (f : Int) : Nat → Int
  | 0 => 300
  | j + 1 => min (roomTo xs f j) (300 - load xs (f + j))
theorem pound_append (xs ys : List T3) : pound (xs ++ ys) = pound xs + pound ys := by
  induction xs with
  | nil => simp [pound]
  | cons p xs ih => simp only [List.cons_append, pound, ih]; omega
theorem pound_next {xs : List T3} {k : Nat} {p : T3} (h : xs[k]? = some p) : pound (xs.take (k + 1)) = pound (xs.take k) + p.c * (p.b - p.a) := by
  rw [take_next h, pound_append]; simp [pound]
theorem okP_mul {n : Int} {p : T3} (hn : n ≤ 7) (h : OkP n p) : 0 ≤ p.c * (p.b - p.a) ∧ p.c * (p.b - p.a) ≤ 693 := by
  unfold OkP at h
  have h1 : 0 ≤ p.c := by omega
  have h2 : 0 ≤ p.b - p.a := by omega
  have h3 : p.b - p.a ≤ 7 := by omega
  refine ⟨Int.mul_nonneg h1 h2, ?_⟩
  have := Int.mul_le_mul (show p.c ≤ 99 by omega) h3 h2 (by omega)
  omega
theorem pound_bd {n : Int} (hn : n ≤ 7) (xs : List T3) (h : ∀ p ∈ xs, OkP n p) : 0 ≤ pound xs ∧ pound xs ≤ 693 * xs.length := by
  induction xs with
  | nil => simp [pound]
  | cons p xs ih =>
    have h1 := ih fun q hq => h q (List.mem_cons_of_mem _ hq)
    have h2 := okP_mul hn (h p (List.mem_cons_self ..))
    simp only [pound, List.length_cons]
    omega
theorem load_nonneg {n : Int} {xs : List T3} (h : ∀ p ∈ xs, OkP n p) (leg : Int) : 0 ≤ load xs leg := (load_bd xs leg (okP_w h)).1
theorem sumTo_bd {n : Int} {xs : List T3} (h : BillOk n xs) (j : Nat) (hj : (j : Int) ≤ n) : 0 ≤ sumTo xs j ∧ sumTo xs j ≤ 300 * j := by
  induction j with
  | zero => simp [sumTo]
  | succ j ih =>
    have h1 := ih (by omega)
    have h2 := h.2.2.2.2 j (by omega)
    have h3 := load_nonneg h.2.2.2.1 j
    simp only [sumTo]
    omega
theorem roomTo_bd {n : Int} {xs : List T3} (h : BillOk n xs) (f : Int) (hf : 0 ≤ f) (j : Nat) (hj : f + j ≤ n) : 0 ≤ roomTo xs f j ∧ roomTo xs f j ≤ 300 := by
  induction j with
  | zero => simp [roomTo]
  | succ j ih =>
    have h1 := ih (by omega)
    have h2 := h.2.2.2.2 (f + j).toNat (by omega)
    have h3 := load_nonneg h.2.2.2.1 (f + j)
    rw [Int.toNat_of_nonneg (by omega)] at h2
    simp only [roomTo]
    omega
theorem one_sum (c a b : Int) (hab : a < b) (h0 : 0 ≤ a) : ∀ m : Nat, sumTo [⟨a, b, c⟩] m = c * (if (m : Int) ≤ a then 0 else if (m : Int) ≤ b then m - a else b - a)
  | 0 => by simp [sumTo, h0]
  | m + 1 => by
    simp only [sumTo, one_sum c a b hab h0 m, load]
    have hs : ((m + 1 : Nat) : Int) = (m : Int) + 1 := by omega
    rw [hs]
    by_cases h1 : (m : Int) + 1 ≤ a
    · have h2 : (m : Int) ≤ a := by omega
      have h3 : ¬ (a ≤ (m : Int) ∧ (m : Int) < b) := by omega
      simp [h1, h2, h3]
    · by_cases h2 : (m : Int) + 1 ≤ b
      · have h3 : a ≤ (m : Int) ∧ (m : Int) < b := by omega
        have h4 : (m : Int) ≤ b := by omega
        simp only [h1, h2, h3, h4, if_true, if_false, and_self]
        by_cases h5 : (m : Int) ≤ a
        · have e : (m : Int) = a := by omega
          rw [if_pos h5, e]
          have e2 : a + 1 - a = 1 := by omega
          rw [e2]; simp
        · rw [if_neg h5]
          have e2 : (m : Int) + 1 - a = ((m : Int) - a) + 1 := by omega
          rw [e2, Int.mul_add]; simp
      · have h3 : ¬ (a ≤ (m : Int) ∧ (m : Int) < b) := by omega
        have h4 : ¬ (m : Int) ≤ a := by omega
        simp only [h1, h2, h3, h4, if_false]
        by_cases h5 : (m : Int) ≤ b
        · have e : (m : Int) = b := by omega
          rw [if_pos h5, e]; simp
        · rw [if_neg h5]; simp
theorem sumTo_cons (p : T3) (xs : List T3) : ∀ m : Nat, sumTo (p :: xs) m = sumTo [p] m + sumTo xs m
  | 0 => by simp [sumTo]
  | m + 1 => by simp only [sumTo, sumTo_cons p xs m, load]; omega
/-- Pounds are carried leg by leg. -/
theorem sumTo_pound (n : Nat) (xs : List T3) (h : ∀ p ∈ xs, OkP n p) : sumTo xs n = pound xs := by
  induction xs with
  | nil =>
    have : ∀ m : Nat, sumTo [] m = 0 := fun m => by induction m with | zero => rfl | succ m ih => simp [sumTo, ih, load]
    simp [this, pound]
  | cons p xs ih =>
    have h1 := h p (List.mem_cons_self ..)
    unfold OkP at h1
    rw [sumTo_cons, ih fun q hq => h q (List.mem_cons_of_mem _ hq), one_sum p.c p.a p.b (by omega) (by omega), if_neg (by omega)]
    by_cases h2 : (n : Int) ≤ p.b
    · have e : (n : Int) = p.b := by omega
      rw [if_pos h2, e, pound]
    · rw [if_neg h2, pound]

/-! ### The coach back, loads -/
def turned (n : Int) (xs : List T3) : List T3 := xs.map fun p => ⟨n - p.b, n - p.a, p.c⟩
theorem turned_next {n : Int} {xs : List T3} {k : Nat} {p : T3} (h : xs[k]? = some p) : turned n (xs.take (k + 1)) = turned n (xs.take k) ++ [⟨n - p.b, n - p.a, p.c⟩] := by
  rw [take_next h]; simp [turned]
theorem turned_len (n : Int) (xs : List T3) : (turned n xs).length = xs.length := by simp [turned]
def loads (xs : List T3) (j : Nat) : List Int := (List.range j).map fun (i : Nat) => load xs i
theorem loads_next (xs : List T3) (j : Nat) : loads xs (j + 1) = loads xs j ++ [load xs j] := by simp [loads, List.range_succ]
theorem loads_len (xs : List T3) (j : Nat) : (loads xs j).length = j := by simp [loads]
end Go.Proofs.Ytkknfhabfmpogaa
