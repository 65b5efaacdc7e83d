/- Texts of mine in one: Plains. -/
import Derived.Lib.Split
import Derived.Lib.ItoaNum
import Derived.Lib.Join
import Derived.Lib.SplitLaws
/- Texts of mine merged into one: Plain SPlain SPlainB EPlain EPlainB EPlainC ETab RPlain RPlainB RPlainC RPlainD RHeap RVal PPlain PPlainB PVal PStops EStep. -/
/- Plain mathematics, with no program in sight. -/
set_option linter.unusedVariables false
namespace Go.Proofs.YtgjllminidlolaaGreatDoor
/-- Three integers: a parcel, a gate, a road. -/
structure T3 where
  a : Int
  b : Int
  c : Int
deriving DecidableEq, Inhabited

/-! ### Way-bills -/
/-- The load on a leg. -/
def load : List T3 → Int → Int
  | [], _ => 0
  | p :: xs, leg => (if p.a ≤ leg ∧ leg < p.b then p.c else 0) + load xs leg
/-- A parcel of a coach of n legs. -/
def OkP (n : Int) (p : T3) : Prop := 0 ≤ p.a ∧ p.a < p.b ∧ p.b ≤ n ∧ 1 ≤ p.c ∧ p.c ≤ 99
/-- A way-bill of a coach of n legs. -/
def BillOk (n : Int) (xs : List T3) : Prop := 1 ≤ n ∧ n ≤ 7 ∧ xs.length ≤ 12 ∧ (∀ p ∈ xs, OkP n p) ∧ ∀ leg : Nat, (leg : Int) < n → load xs leg ≤ 300
theorem bill_not {n : Int} {xs : List T3} {k : Nat} {x y z : Int} (h : xs[k]? = some ⟨x, y, z⟩) (hn : ¬ (0 ≤ x ∧ x < y ∧ y ≤ n ∧ 1 ≤ z ∧ z ≤ 99)) : ¬ BillOk n xs :=
  fun hB => hn (hB.2.2.2.1 _ (List.mem_of_getElem? h))
theorem bill_load {n : Int} {xs : List T3} {k : Nat} (hk : (k : Int) < n) (hl : 300 < load xs k) : ¬ BillOk n xs := fun hB => by
  have := hB.2.2.2.2 k hk
  omega
theorem allP_next {n : Int} {xs : List T3} {k : Nat} {x y z : Int} (h : xs[k]? = some ⟨x, y, z⟩) (ha : ∀ p ∈ xs.take k, OkP n p) (hn : 0 ≤ x ∧ x < y ∧ y ≤ n ∧ 1 ≤ z ∧ z ≤ 99) : ∀ p ∈ xs.take (k + 1), OkP n p := by
  intro p hp
  rw [List.take_add_one, h] at hp
  simp only [Option.toList, List.mem_append, List.mem_singleton] at hp
  rcases hp with hp | rfl
  · exact ha p hp
  · exact hn
theorem okP_w {n : Int} {xs : List T3} (h : ∀ p ∈ xs, OkP n p) : ∀ p ∈ xs, 0 ≤ p.c ∧ p.c ≤ 99 := fun p hp => by
  have := h p hp
  unfold OkP at this
  omega
theorem load_bd (xs : List T3) (leg : Int) (h : ∀ p ∈ xs, 0 ≤ p.c ∧ p.c ≤ 99) : 0 ≤ load xs leg ∧ load xs leg ≤ 99 * xs.length := by
  induction xs with
  | nil => simp [load]
  | cons p xs ih =>
    have h1 := ih fun q hq => h q (List.mem_cons_of_mem _ hq)
    have h2 := h p (List.mem_cons_self ..)
    simp only [load, List.length_cons]
    split <;> omega
theorem load_append (xs ys : List T3) (leg : Int) : load (xs ++ ys) leg = load xs leg + load ys leg := by
  induction xs with
  | nil => simp [load]
  | cons p xs ih => simp only [List.cons_append, load, ih]; omega
theorem min_ite (s r : Int) : (if r < s then r else s) = min s r := by
  rw [Int.min_def]
  split <;> split <;> omega
theorem take_next {α : Type} {xs : List α} {k : Nat} {p : α} (h : xs[k]? = some p) : xs.take (k + 1) = xs.take k ++ [p] := by
  rw [List.take_add_one, h]; rfl
theorem mem_at {α : Type} {xs : List α} {k : Nat} {p : α} (h : xs[k]? = some p) : p ∈ xs := List.mem_of_getElem? h
theorem load_next {xs : List T3} {k : Nat} {p : T3} (leg : Int) (h : xs[k]? = some p) : load (xs.take (k + 1)) leg = load (xs.take k) leg + if p.a ≤ leg ∧ leg < p.b then p.c else 0 := by
  rw [take_next h, load_append]; simp [load]
theorem mem_take_of {α : Type} {xs : List α} {k : Nat} {p : α} (h : p ∈ xs.take k) : p ∈ xs := List.mem_of_mem_take h

/-- A parcel of a way-bill with its index. -/
structure P4 where
  a : Int
  b : Int
  i : Int
  c : Int
deriving DecidableEq, Inhabited
def packs (xs : List T3) : List P4 := xs.mapIdx fun i p => ⟨p.a, p.b, i, p.c⟩
theorem packs_next {xs : List T3} {k : Nat} {p : T3} (h : xs[k]? = some p) : packs (xs.take (k + 1)) = packs (xs.take k) ++ [⟨p.a, p.b, k, p.c⟩] := by
  have hk : k < xs.length := (List.getElem?_eq_some_iff.1 h).1
  rw [take_next h]
  simp [packs, List.mapIdx_concat, Nat.min_eq_left (Nat.le_of_lt hk)]
theorem packs_len (xs : List T3) : (packs xs).length = xs.length := by simp [packs]
theorem packs_at {xs : List T3} {k : Nat} {q : P4} (h : (packs xs)[k]? = some q) : ∃ p, xs[k]? = some p ∧ q = ⟨p.a, p.b, k, p.c⟩ := by
  simp only [packs, List.getElem?_mapIdx, Option.map_eq_some_iff] at h
  obtain ⟨p, hp, rfl⟩ := h
  exact ⟨p, hp, rfl⟩

/-! ### Pounds and room -/
def pound : List T3 → Int
  | [] => 0
  | p :: xs => p.c * (p.b - p.a) + pound xs
def sumTo (xs : List T3) : Nat → Int
  | 0 => 0
  | j + 1 => sumTo xs j + load xs j
def roomTo (xs : List T3) (f : Int) : Nat → Int
  | 0 => 300
  | j + 1 => min (roomTo xs f j) (300 - load xs (f + j))
theorem pound_append (xs ys : List T3) : pound (xs ++ ys) = pound xs + pound ys := by
  induction xs with
  | nil => simp [pound]
  | cons p xs ih => simp only [List.cons_append, pound, ih]; omega
theorem pound_next {xs : List T3} {k : Nat} {p : T3} (h : xs[k]? = some p) : pound (xs.take (k + 1)) = pound (xs.take k) + p.c * (p.b - p.a) := by
  rw [take_next h, pound_append]; simp [pound]
theorem okP_mul {n : Int} {p : T3} (hn : n ≤ 7) (h : OkP n p) : 0 ≤ p.c * (p.b - p.a) ∧ p.c * (p.b - p.a) ≤ 693 := by
  unfold OkP at h
  have h1 : 0 ≤ p.c := by omega
  have h2 : 0 ≤ p.b - p.a := by omega
  have h3 : p.b - p.a ≤ 7 := by omega
  refine ⟨Int.mul_nonneg h1 h2, ?_⟩
  have := Int.mul_le_mul (show p.c ≤ 99 by omega) h3 h2 (by omega)
  omega
theorem pound_bd {n : Int} (hn : n ≤ 7) (xs : List T3) (h : ∀ p ∈ xs, OkP n p) : 0 ≤ pound xs ∧ pound xs ≤ 693 * xs.length := by
  induction xs with
  | nil => simp [pound]
  | cons p xs ih =>
    have h1 := ih fun q hq => h q (List.mem_cons_of_mem _ hq)
    have h2 := okP_mul hn (h p (List.mem_cons_self ..))
    simp only [pound, List.length_cons]
    omega
theorem load_nonneg {n : Int} {xs : List T3} (h : ∀ p ∈ xs, OkP n p) (leg : Int) : 0 ≤ load xs leg := (load_bd xs leg (okP_w h)).1
theorem sumTo_bd {n : Int} {xs : List T3} (h : BillOk n xs) (j : Nat) (hj : (j : Int) ≤ n) : 0 ≤ sumTo xs j ∧ sumTo xs j ≤ 300 * j := by
  induction j with
  | zero => simp [sumTo]
  | succ j ih =>
    have h1 := ih (by omega)
    have h2 := h.2.2.2.2 j (by omega)
    have h3 := load_nonneg h.2.2.2.1 j
    simp only [sumTo]
    omega
theorem roomTo_bd {n : Int} {xs : List T3} (h : BillOk n xs) (f : Int) (hf : 0 ≤ f) (j : Nat) (hj : f + j ≤ n) : 0 ≤ roomTo xs f j ∧ roomTo xs f j ≤ 300 := by
  induction j with
  | zero => simp [roomTo]
  | succ j ih =>
    have h1 := ih (by omega)
    have h2 := h.2.2.2.2 (f + j).toNat (by omega)
    have h3 := load_nonneg h.2.2.2.1 (f + j)
    rw [Int.toNat_of_nonneg (by omega)] at h2
    simp only [roomTo]
    omega
theorem one_sum (c a b : Int) (hab : a < b) (h0 : 0 ≤ a) : ∀ m : Nat, sumTo [⟨a, b, c⟩] m = c * (if (m : Int) ≤ a then 0 else if (m : Int) ≤ b then m - a else b - a)
  | 0 => by simp [sumTo, h0]
  | m + 1 => by
    simp only [sumTo, one_sum c a b hab h0 m, load]
    have hs : ((m + 1 : Nat) : Int) = (m : Int) + 1 := by omega
    rw [hs]
    by_cases h1 : (m : Int) + 1 ≤ a
    · have h2 : (m : Int) ≤ a := by omega
      have h3 : ¬ (a ≤ (m : Int) ∧ (m : Int) < b) := by omega
      simp [h1, h2, h3]
    · by_cases h2 : (m : Int) + 1 ≤ b
      · have h3 : a ≤ (m : Int) ∧ (m : Int) < b := by omega
        have h4 : (m : Int) ≤ b := by omega
        simp only [h1, h2, h3, h4, if_true, if_false, and_self]
        by_cases h5 : (m : Int) ≤ a
        · have e : (m : Int) = a := by omega
          rw [if_pos h5, e]
          have e2 : a + 1 - a = 1 := by omega
          rw [e2]; simp
        · rw [if_neg h5]
          have e2 : (m : Int) + 1 - a = ((m : Int) - a) + 1 := by omega
          rw [e2, Int.mul_add]; simp
      · have h3 : ¬ (a ≤ (m : Int) ∧ (m : Int) < b) := by omega
        have h4 : ¬ (m : Int) ≤ a := by omega
        simp only [h1, h2, h3, h4, if_false]
        by_cases h5 : (m : Int) ≤ b
        · have e : (m : Int) = b := by omega
          rw [if_pos h5, e]; simp
        · rw [if_neg h5]; simp
theorem sumTo_cons (p : T3) (xs : List T3) : ∀ m : Nat, sumTo (p :: xs) m = sumTo [p] m + sumTo xs m
  | 0 => by simp [sumTo]
  | m + 1 => by simp only [sumTo, sumTo_cons p xs m, load]; omega
/-- Pounds are carried leg by leg. -/
theorem sumTo_pound (n : Nat) (xs : List T3) (h : ∀ p ∈ xs, OkP n p) : sumTo xs n = pound xs := by
  induction xs with
  | nil =>
    have : ∀ m : Nat, sumTo [] m = 0 := fun m => by induction m with | zero => rfl | succ m ih => simp [sumTo, ih, load]
    simp [this, pound]
  | cons p xs ih =>
    have h1 := h p (List.mem_cons_self ..)
    unfold OkP at h1
    rw [sumTo_cons, ih fun q hq => h q (List.mem_cons_of_mem _ hq), one_sum p.c p.a p.b (by omega) (by omega), if_neg (by omega)]
    by_cases h2 : (n : Int) ≤ p.b
    · have e : (n : Int) = p.b := by omega
      rw [if_pos h2, e, pound]
    · rw [if_neg h2, pound]

/-! ### The coach back, loads -/
def turned (n : Int) (xs : List T3) : List T3 := xs.map fun p => ⟨n - p.b, n - p.a, p.c⟩
theorem turned_next {n : Int} {xs : List T3} {k : Nat} {p : T3} (h : xs[k]? = some p) : turned n (xs.take (k + 1)) = turned n (xs.take k) ++ [⟨n - p.b, n - p.a, p.c⟩] := by
  rw [take_next h]; simp [turned]
theorem turned_len (n : Int) (xs : List T3) : (turned n xs).length = xs.length := by simp [turned]
def loads (xs : List T3) (j : Nat) : List Int := (List.range j).map fun (i : Nat) => load xs i
theorem loads_next (xs : List T3) (j : Nat) : loads xs (j + 1) = loads xs j ++ [load xs j] := by simp [loads, List.range_succ]
theorem loads_len (xs : List T3) (j : Nat) : (loads xs j).length = j := by simp [loads]
end Go.Proofs.YtgjllminidlolaaGreatDoor
/- Plain mathematics of bookings: what is taken on a leg, sets of legs. -/
set_option linter.unusedVariables false
namespace Go.Proofs.YtgjllminidlolaaGreatDoor

/-- A booking: from, to, inside. -/
structure B3 where
  a : Int
  b : Int
  c : Bool
deriving DecidableEq, Inhabited
/-- Bookings of a kind on a leg. -/
def taken : List B3 → Int → Bool → Int
  | [], _, _ => 0
  | p :: xs, leg, k => (if p.c = k ∧ p.a ≤ leg ∧ leg < p.b then 1 else 0) + taken xs leg k
def OkB (n : Int) (p : B3) : Prop := 0 ≤ p.a ∧ p.a < p.b ∧ p.b ≤ n
/-- Bookings of a coach of n legs. -/
def BookOk (n : Int) (xs : List B3) : Prop := 1 ≤ n ∧ n ≤ 7 ∧ xs.length ≤ 16 ∧ (∀ p ∈ xs, OkB n p) ∧ ∀ leg : Nat, (leg : Int) < n → taken xs leg true ≤ 4 ∧ taken xs leg false ≤ 6
theorem taken_append (xs ys : List B3) (leg : Int) (k : Bool) : taken (xs ++ ys) leg k = taken xs leg k + taken ys leg k := by
  induction xs with
  | nil => simp [taken]
  | cons p xs ih => simp only [List.cons_append, taken, ih]; omega
theorem taken_next {xs : List B3} {j : Nat} {p : B3} (leg : Int) (k : Bool) (h : xs[j]? = some p) : taken (xs.take (j + 1)) leg k = taken (xs.take j) leg k + if p.c = k ∧ p.a ≤ leg ∧ leg < p.b then 1 else 0 := by
  rw [take_next h, taken_append]; simp [taken]
theorem taken_bd (xs : List B3) (leg : Int) (k : Bool) : 0 ≤ taken xs leg k ∧ taken xs leg k ≤ xs.length := by
  induction xs with
  | nil => simp [taken]
  | cons p xs ih =>
    simp only [taken, List.length_cons]
    split <;> omega
theorem taken_sub {xs ys : List B3} (hs : ys.Sublist xs) (leg : Int) (k : Bool) : taken ys leg k ≤ taken xs leg k := by
  induction hs with
  | slnil => exact Int.le_refl _
  | cons p h ih => simp only [taken]; split <;> omega
  | cons_cons p h ih => simp only [taken]; omega
theorem taken_perm {xs ys : List B3} (h : ys.Perm xs) (leg : Int) (k : Bool) : taken ys leg k = taken xs leg k := by
  induction h with
  | nil => rfl
  | cons p h ih => simp only [taken, ih]
  | swap p q l => simp only [taken]; omega
  | trans _ _ h1 h2 => rw [h1, h2]
theorem book_sub {n : Int} {xs ys : List B3} (h : BookOk n xs) (hs : ys.Sublist xs) : BookOk n ys := by
  obtain ⟨h1, h2, h3, h4, h5⟩ := h
  refine ⟨h1, h2, Nat.le_trans hs.length_le h3, fun p hp => h4 p (hs.subset hp), fun leg hl => ?_⟩
  have a := taken_sub hs leg true
  have b := taken_sub hs leg false
  have := h5 leg hl
  omega
theorem book_perm {n : Int} {xs ys : List B3} (h : BookOk n xs) (hs : ys.Perm xs) : BookOk n ys := by
  obtain ⟨h1, h2, h3, h4, h5⟩ := h
  refine ⟨h1, h2, by rw [hs.length_eq]; exact h3, fun p hp => h4 p (hs.mem_iff.1 hp), fun leg hl => ?_⟩
  rw [taken_perm hs, taken_perm hs]
  exact h5 leg hl
theorem book_not {n : Int} {xs : List B3} {k : Nat} {p : B3} (h : xs[k]? = some p) (hn : ¬ OkB n p) : ¬ BookOk n xs := fun hB => hn (hB.2.2.2.1 _ (List.mem_of_getElem? h))
theorem book_leg {n : Int} {xs : List B3} {k : Nat} (hk : (k : Int) < n) (hl : ¬ (taken xs k true ≤ 4 ∧ taken xs k false ≤ 6)) : ¬ BookOk n xs := fun hB => hl (hB.2.2.2.2 k hk)
theorem allB_next {n : Int} {xs : List B3} {k : Nat} {p : B3} (h : xs[k]? = some p) (ha : ∀ p ∈ xs.take k, OkB n p) (hn : OkB n p) : ∀ p ∈ xs.take (k + 1), OkB n p := by
  intro q hq
  rw [take_next h] at hq
  rcases List.mem_append.1 hq with hq | hq
  · exact ha q hq
  · rw [List.mem_singleton.1 hq]; exact hn

/-! ### Sets of legs as numbers -/
/-- The legs from f to t, as bits. -/
def legs (f t : Nat) : Nat := 2 ^ t - 2 ^ f
theorem legs_one (k : Nat) : legs k (k + 1) = 2 ^ k := by
  unfold legs
  rw [Nat.pow_succ]
  omega
/-- Two stretches of at most seven legs meet in their bits just where they meet. -/
theorem legs_meet : ∀ f t g u : Fin 8, f.val ≤ t.val → g.val ≤ u.val → ((legs f.val t.val &&& legs g.val u.val ≠ 0) ↔ (f.val < u.val ∧ g.val < t.val ∧ f.val < t.val ∧ g.val < u.val)) := by
  decide
end Go.Proofs.YtgjllminidlolaaGreatDoor
/- Plain mathematics of seatings: which seat is free, the plan of seats, and that it never passes the capacity. -/
set_option linter.unusedVariables false
namespace Go.Proofs.YtgjllminidlolaaGreatDoor

/-- Two bookings of a kind with a leg in common. -/
def meetB (p q : B3) : Prop := p.c = q.c ∧ p.a < q.b ∧ q.a < p.b
instance (p q : B3) : Decidable (meetB p q) := by unfold meetB; exact inferInstance
/-- The number of seats of a kind. -/
def capOf (k : Bool) : Nat := if k = true then 4 else 6
theorem capOf_bd (k : Bool) : 4 ≤ capOf k ∧ capOf k ≤ 6 := by cases k <;> decide
/-- Seat s is taken for the booking p. -/
def blk : List B3 → List Int → B3 → Int → Bool
  | q :: xs, o :: out, p, s => (decide (o = s) && decide (meetB p q)) || blk xs out p s
  | _, _, _, _ => false
theorem blk_iff : ∀ (xs : List B3) (out : List Int) (p : B3) (s : Int), blk xs out p s = true ↔ ∃ (k : Nat) (q : B3), xs[k]? = some q ∧ out[k]? = some s ∧ meetB p q
  | [], out, p, s => by simp [blk]
  | q :: xs, [], p, s => by simp [blk]
  | q :: xs, o :: out, p, s => by
    simp only [blk, Bool.or_eq_true, Bool.and_eq_true, decide_eq_true_eq, blk_iff xs out p s]
    constructor
    · rintro (⟨h1, h2⟩ | ⟨k, r, h1, h2, h3⟩)
      · exact ⟨0, q, rfl, by rw [h1]; rfl, h2⟩
      · exact ⟨k + 1, r, h1, h2, h3⟩
    · rintro ⟨k, r, h1, h2, h3⟩
      cases k with
      | zero =>
        simp only [List.getElem?_cons_zero, Option.some.injEq] at h1 h2
        subst h1 h2
        exact .inl ⟨rfl, h3⟩
      | succ k => exact .inr ⟨k, r, h1, h2, h3⟩
theorem blk_no {xs : List B3} {out : List Int} {p : B3} {s : Int} (h : ¬ ∃ (k : Nat) (q : B3), xs[k]? = some q ∧ out[k]? = some s ∧ meetB p q) : blk xs out p s = false := by
  cases hb : blk xs out p s with
  | false => rfl
  | true => exact absurd ((blk_iff xs out p s).1 hb) h

/-! ### The least seat -/
def pickF (b : Int → Bool) : Nat → Nat → Nat
  | 0, s => s
  | f + 1, s => if b s = true then pickF b f (s + 1) else s
theorem pickF_bd (b : Int → Bool) : ∀ f s, s ≤ pickF b f s ∧ pickF b f s ≤ s + f
  | 0, s => by simp [pickF]
  | f + 1, s => by
    have := pickF_bd b f (s + 1)
    unfold pickF
    split <;> omega
theorem pickF_below (b : Int → Bool) : ∀ f s (t : Nat), s ≤ t → t < pickF b f s → b t = true
  | 0, s, t, h1, h2 => by unfold pickF at h2; omega
  | f + 1, s, t, h1, h2 => by
    unfold pickF at h2
    split at h2
    · rename_i h
      by_cases e : t = s
      · rw [e]; exact h
      · exact pickF_below b f (s + 1) t (by omega) h2
    · omega
theorem pickF_free (b : Int → Bool) : ∀ f s, pickF b f s < s + f → b (pickF b f s) = false
  | 0, s, h => by unfold pickF at h; omega
  | f + 1, s, h => by
    unfold pickF at h ⊢
    split
    · rename_i h1
      rw [if_pos h1] at h
      exact pickF_free b f (s + 1) (by omega)
    · rename_i h1
      simpa using h1
/-- One step: what the loop of the program looks at. -/
theorem pickF_step (b : Int → Bool) (f s : Nat) : pickF b (f + 1) s = if b s = true then pickF b f (s + 1) else s := rfl
def pick (xs : List B3) (out : List Int) (p : B3) : Nat := pickF (blk xs out p) (capOf p.c - 1) 0

/-! ### Counting -/
/-- Those of a kind on a leg with a seat below m. -/
def cnt : List B3 → List Int → Int → Bool → Int → Int
  | q :: xs, o :: out, leg, k, m => (if q.c = k ∧ q.a ≤ leg ∧ leg < q.b ∧ 0 ≤ o ∧ o < m then 1 else 0) + cnt xs out leg k m
  | _, _, _, _, _ => 0
/-- Those of a kind on a leg with the seat t. -/
def eqc : List B3 → List Int → Int → Bool → Int → Int
  | q :: xs, o :: out, leg, k, t => (if q.c = k ∧ q.a ≤ leg ∧ leg < q.b ∧ o = t then 1 else 0) + eqc xs out leg k t
  | _, _, _, _, _ => 0
theorem cnt_nonneg : ∀ (xs : List B3) (out : List Int) (leg : Int) (k : Bool) (m : Int), 0 ≤ cnt xs out leg k m
  | [], out, leg, k, m => by simp [cnt]
  | q :: xs, [], leg, k, m => by simp [cnt]
  | q :: xs, o :: out, leg, k, m => by
    have := cnt_nonneg xs out leg k m
    unfold cnt
    split <;> omega
theorem eqc_nonneg : ∀ (xs : List B3) (out : List Int) (leg : Int) (k : Bool) (m : Int), 0 ≤ eqc xs out leg k m
  | [], out, leg, k, m => by simp [eqc]
  | q :: xs, [], leg, k, m => by simp [eqc]
  | q :: xs, o :: out, leg, k, m => by
    have := eqc_nonneg xs out leg k m
    unfold eqc
    split <;> omega
theorem cnt_zero : ∀ (xs : List B3) (out : List Int) (leg : Int) (k : Bool), cnt xs out leg k 0 = 0
  | [], out, leg, k => by simp [cnt]
  | q :: xs, [], leg, k => by simp [cnt]
  | q :: xs, o :: out, leg, k => by
    have := cnt_zero xs out leg k
    unfold cnt
    rw [if_neg (fun h => by omega), this]
    rfl
theorem cnt_succ : ∀ (xs : List B3) (out : List Int) (leg : Int) (k : Bool) (m : Int), 0 ≤ m → cnt xs out leg k (m + 1) = cnt xs out leg k m + eqc xs out leg k m
  | [], out, leg, k, m, _ => by simp [cnt, eqc]
  | q :: xs, [], leg, k, m, _ => by simp [cnt, eqc]
  | q :: xs, o :: out, leg, k, m, h => by
    have := cnt_succ xs out leg k m h
    unfold cnt eqc
    by_cases h1 : q.c = k ∧ q.a ≤ leg ∧ leg < q.b
    · by_cases h2 : o = m
      · rw [if_pos ⟨h1.1, h1.2.1, h1.2.2, by omega, by omega⟩, if_neg (fun h => by omega), if_pos ⟨h1.1, h1.2.1, h1.2.2, h2⟩]
        omega
      · rw [if_neg (c := q.c = k ∧ q.a ≤ leg ∧ leg < q.b ∧ o = m) (fun h => h2 h.2.2.2)]
        by_cases h3 : 0 ≤ o ∧ o < m
        · rw [if_pos ⟨h1.1, h1.2.1, h1.2.2, h3.1, by omega⟩, if_pos ⟨h1.1, h1.2.1, h1.2.2, h3.1, h3.2⟩]
          omega
        · rw [if_neg (fun h => h3 ⟨h.2.2.2.1, by omega⟩), if_neg (fun h => h3 ⟨h.2.2.2.1, h.2.2.2.2⟩)]
          omega
    · rw [if_neg (fun h => h1 ⟨h.1, h.2.1, h.2.2.1⟩), if_neg (fun h => h1 ⟨h.1, h.2.1, h.2.2.1⟩), if_neg (fun h => h1 ⟨h.1, h.2.1, h.2.2.1⟩)]
      omega
theorem eqc_pos : ∀ (xs : List B3) (out : List Int) (leg : Int) (k : Bool) (t : Int) (j : Nat) (q : B3), xs[j]? = some q → out[j]? = some t → q.c = k → q.a ≤ leg → leg < q.b → 1 ≤ eqc xs out leg k t
  | [], out, leg, k, t, j, q, h1, _, _, _, _ => by simp at h1
  | r :: xs, [], leg, k, t, j, q, _, h2, _, _, _ => by simp at h2
  | r :: xs, o :: out, leg, k, t, 0, q, h1, h2, h3, h4, h5 => by
    simp only [List.getElem?_cons_zero, Option.some.injEq] at h1 h2
    subst h1 h2
    have := eqc_nonneg xs out leg k o
    unfold eqc
    rw [if_pos ⟨h3, h4, h5, rfl⟩]
    omega
  | r :: xs, o :: out, leg, k, t, j + 1, q, h1, h2, h3, h4, h5 => by
    have := eqc_pos xs out leg k t j q h1 h2 h3 h4 h5
    unfold eqc
    split <;> omega
/-- Where each seat below m is taken, there are as many. -/
theorem cnt_ge (xs : List B3) (out : List Int) (leg : Int) (k : Bool) : ∀ m : Nat, (∀ t : Nat, t < m → ∃ (j : Nat) (q : B3), xs[j]? = some q ∧ out[j]? = some (t : Int) ∧ q.c = k ∧ q.a ≤ leg ∧ leg < q.b) → (m : Int) ≤ cnt xs out leg k m
  | 0, _ => by rw [show ((0 : Nat) : Int) = 0 from rfl, cnt_zero]; omega
  | m + 1, h => by
    have h1 := cnt_ge xs out leg k m (fun t ht => h t (by omega))
    obtain ⟨j, q, h2, h3, h4, h5, h6⟩ := h m (by omega)
    have h7 := eqc_pos xs out leg k m j q h2 h3 h4 h5 h6
    have h8 := cnt_succ xs out leg k m (by omega)
    rw [show ((m + 1 : Nat) : Int) = (m : Int) + 1 from rfl, h8]
    omega
theorem cnt_le : ∀ (xs : List B3) (out : List Int) (leg : Int) (k : Bool) (m : Int), cnt xs out leg k m ≤ taken xs leg k
  | [], out, leg, k, m => by simp [cnt, taken]
  | q :: xs, [], leg, k, m => by
    have := (taken_bd (q :: xs) leg k).1
    simpa [cnt] using this
  | q :: xs, o :: out, leg, k, m => by
    have := cnt_le xs out leg k m
    unfold cnt taken
    by_cases h1 : q.c = k ∧ q.a ≤ leg ∧ leg < q.b
    · rw [if_pos (c := q.c = k ∧ q.a ≤ leg ∧ leg < q.b) h1]
      split <;> omega
    · rw [if_neg (c := q.c = k ∧ q.a ≤ leg ∧ leg < q.b) h1, if_neg (fun h => h1 ⟨h.1, h.2.1, h.2.2.1⟩)]
      omega
/-- One more, where one of them has no seat yet. -/
theorem cnt_lt : ∀ (xs : List B3) (out : List Int) (leg : Int) (k : Bool) (m : Int) (j : Nat) (q : B3), xs[j]? = some q → out[j]? = some (-1) → q.c = k → q.a ≤ leg → leg < q.b → cnt xs out leg k m + 1 ≤ taken xs leg k
  | [], out, leg, k, m, j, q, h1, _, _, _, _ => by simp at h1
  | r :: xs, [], leg, k, m, j, q, _, h2, _, _, _ => by simp at h2
  | r :: xs, o :: out, leg, k, m, 0, q, h1, h2, h3, h4, h5 => by
    simp only [List.getElem?_cons_zero, Option.some.injEq] at h1 h2
    subst h1 h2
    have := cnt_le xs out leg k m
    unfold cnt taken
    rw [if_neg (fun h => by omega), if_pos ⟨h3, h4, h5⟩]
    omega
  | r :: xs, o :: out, leg, k, m, j + 1, q, h1, h2, h3, h4, h5 => by
    have := cnt_lt xs out leg k m j q h1 h2 h3 h4 h5
    unfold cnt taken
    by_cases h6 : r.c = k ∧ r.a ≤ leg ∧ leg < r.b
    · rw [if_pos (c := r.c = k ∧ r.a ≤ leg ∧ leg < r.b) h6]
      split <;> omega
    · rw [if_neg (c := r.c = k ∧ r.a ≤ leg ∧ leg < r.b) h6, if_neg (fun h => h6 ⟨h.1, h.2.1, h.2.2.1⟩)]
      omega
theorem eqc_none : ∀ (xs : List B3) (out : List Int) (leg : Int) (k : Bool) (t : Int), (∀ (j : Nat) q, xs[j]? = some q → out[j]? = some t → ¬ (q.c = k ∧ q.a ≤ leg ∧ leg < q.b)) → eqc xs out leg k t = 0
  | [], out, leg, k, t, _ => by simp [eqc]
  | q :: xs, [], leg, k, t, _ => by simp [eqc]
  | q :: xs, o :: out, leg, k, t, h => by
    have := eqc_none xs out leg k t (fun j r h1 h2 => h (j + 1) r h1 h2)
    unfold eqc
    rw [if_neg (fun h1 => h 0 q rfl (by rw [h1.2.2.2]; rfl) ⟨h1.1, h1.2.1, h1.2.2.1⟩), this]
    rfl
/-- No two of them on one seat: at most one. -/
theorem eqc_one : ∀ (xs : List B3) (out : List Int) (leg : Int) (k : Bool) (t : Int), (∀ (i j : Nat) p q, i < j → xs[i]? = some p → xs[j]? = some q → out[i]? = some t → out[j]? = some t → ¬ meetB q p) → eqc xs out leg k t ≤ 1
  | [], out, leg, k, t, _ => by simp [eqc]
  | q :: xs, [], leg, k, t, _ => by simp [eqc]
  | q :: xs, o :: out, leg, k, t, h => by
    have h1 := eqc_one xs out leg k t (fun i j p r hij hi hj h2 h3 => h (i + 1) (j + 1) p r (by omega) hi hj h2 h3)
    unfold eqc
    by_cases h2 : q.c = k ∧ q.a ≤ leg ∧ leg < q.b ∧ o = t
    · have h3 := eqc_none xs out leg k t (fun j r hj h4 h5 => h 0 (j + 1) q r (by omega) rfl hj (by rw [h2.2.2.2]; rfl) h4 ⟨by rw [h5.1, h2.1], by omega, by omega⟩)
      rw [if_pos h2, h3]
      omega
    · rw [if_neg h2]
      omega
theorem cnt_most (xs : List B3) (out : List Int) (leg : Int) (k : Bool) (h : ∀ (t : Int) (i j : Nat) p q, i < j → xs[i]? = some p → xs[j]? = some q → out[i]? = some t → out[j]? = some t → ¬ meetB q p) : ∀ m : Nat, cnt xs out leg k m ≤ m
  | 0 => by rw [show ((0 : Nat) : Int) = 0 from rfl, cnt_zero]; omega
  | m + 1 => by
    have h1 := cnt_most xs out leg k h m
    have h2 := eqc_one xs out leg k m (h m)
    rw [show ((m + 1 : Nat) : Int) = (m : Int) + 1 from rfl, cnt_succ xs out leg k m (by omega)]
    omega
/-- All of a kind have a seat below m: all are counted. -/
theorem cnt_all : ∀ (xs : List B3) (out : List Int) (leg : Int) (k : Bool) (m : Int), out.length = xs.length → (∀ (j : Nat) q o, xs[j]? = some q → out[j]? = some o → q.c = k → 0 ≤ o ∧ o < m) → cnt xs out leg k m = taken xs leg k
  | [], out, leg, k, m, _, _ => by simp [cnt, taken]
  | q :: xs, [], leg, k, m, h, _ => by simp at h
  | q :: xs, o :: out, leg, k, m, h, ha => by
    have := cnt_all xs out leg k m (by simpa using h) (fun j r u h1 h2 h3 => ha (j + 1) r u h1 h2 h3)
    unfold cnt taken
    by_cases h1 : q.c = k ∧ q.a ≤ leg ∧ leg < q.b
    · have h2 := ha 0 q o rfl rfl h1.1
      rw [if_pos ⟨h1.1, h1.2.1, h1.2.2, h2.1, h2.2⟩, if_pos h1, this]
    · rw [if_neg (fun h => h1 ⟨h.1, h.2.1, h.2.2.1⟩), if_neg h1, this]

/-! ### A seating -/
/-- Seats in their range, and nobody on another one. -/
def SeatOk (xs : List B3) (out : List Int) : Prop :=
  out.length = xs.length ∧ (∀ (k : Nat) q o, xs[k]? = some q → out[k]? = some o → 0 ≤ o ∧ o < capOf q.c) ∧
    ∀ (t : Int) (i j : Nat) p q, i < j → xs[i]? = some p → xs[j]? = some q → out[i]? = some t → out[j]? = some t → ¬ meetB q p
theorem take_at {α : Type} {xs : List α} {i j : Nat} {p : α} (h : (xs.take i)[j]? = some p) : j < i ∧ xs[j]? = some p := by
  rw [List.getElem?_take] at h
  split at h
  · exact ⟨by assumption, h⟩
  · cases h
theorem take_at_of {α : Type} {xs : List α} {i j : Nat} {p : α} (h : xs[j]? = some p) (hi : j < i) : (xs.take i)[j]? = some p := by
  rw [List.getElem?_take, if_pos hi]; exact h
theorem seat_nil : SeatOk [] [] := ⟨rfl, by simp, by simp⟩
/-- One more booking in order. -/
theorem seat_next {xs : List B3} {out : List Int} {i : Nat} {p : B3} {o : Int} (hx : xs[i]? = some p) (ho : out[i]? = some o) (h : SeatOk (xs.take i) (out.take i)) (h0 : 0 ≤ o) (h1 : o < capOf p.c) (hb : blk (xs.take i) (out.take i) p o = false) :
    SeatOk (xs.take (i + 1)) (out.take (i + 1)) := by
  have hxl := (List.getElem?_eq_some_iff.1 hx).1
  have hol := (List.getElem?_eq_some_iff.1 ho).1
  obtain ⟨a1, a2, a3⟩ := h
  refine ⟨by rw [List.length_take, List.length_take]; omega, fun k q u hk hu => ?_, fun t k j q r hkj hk hj hu hv hm => ?_⟩
  · obtain ⟨k1, k2⟩ := take_at hk
    obtain ⟨_, k3⟩ := take_at hu
    by_cases e : k = i
    · subst e
      rw [hx] at k2
      rw [ho] at k3
      injection k2 with k2
      injection k3 with k3
      subst k2 k3
      exact ⟨h0, h1⟩
    · exact a2 k q u (take_at_of k2 (by omega)) (take_at_of k3 (by omega))
  · obtain ⟨k1, k2⟩ := take_at hk
    obtain ⟨_, k3⟩ := take_at hu
    obtain ⟨j1, j2⟩ := take_at hj
    obtain ⟨_, j3⟩ := take_at hv
    by_cases e : j = i
    · subst e
      rw [hx] at j2
      rw [ho] at j3
      injection j2 with j2
      injection j3 with j3
      subst j2 j3
      have := (blk_iff (xs.take j) (out.take j) p o).2 ⟨k, q, take_at_of k2 hkj, take_at_of k3 hkj, hm⟩
      rw [hb] at this
      cases this
    · exact a3 t k j q r hkj (take_at_of k2 (by omega)) (take_at_of j2 (by omega)) (take_at_of k3 (by omega)) (take_at_of j3 (by omega)) hm
theorem seat_not_range {xs : List B3} {out : List Int} {i : Nat} {p : B3} {o : Int} (hx : xs[i]? = some p) (ho : out[i]? = some o) (h : ¬ (0 ≤ o ∧ o < capOf p.c)) : ¬ SeatOk xs out := fun hS => h (hS.2.1 i p o hx ho)
theorem seat_not_blk {xs : List B3} {out : List Int} {i : Nat} {p : B3} {o : Int} (hx : xs[i]? = some p) (ho : out[i]? = some o) (h : blk (xs.take i) (out.take i) p o = true) : ¬ SeatOk xs out := fun hS => by
  obtain ⟨k, q, h1, h2, h3⟩ := (blk_iff _ _ _ _).1 h
  obtain ⟨k1, k2⟩ := take_at h1
  obtain ⟨_, k3⟩ := take_at h2
  exact hS.2.2 o k i q p k1 k2 hx k3 ho h3
theorem seat_erase {xs : List B3} {out : List Int} (h : SeatOk xs out) (k : Nat) : SeatOk (xs.eraseIdx k) (out.eraseIdx k) := by
  obtain ⟨h1, h2, h3⟩ := h
  have hl : (out.eraseIdx k).length = (xs.eraseIdx k).length := by rw [List.length_eraseIdx, List.length_eraseIdx, h1]
  refine ⟨hl, fun j q o hq ho => ?_, fun t i j p q hij hp hq ho hu => ?_⟩
  · rw [List.getElem?_eraseIdx] at hq ho
    split at hq
    · rename_i hj
      rw [if_pos hj] at ho
      exact h2 _ q o hq ho
    · rename_i hj
      rw [if_neg hj] at ho
      exact h2 _ q o hq ho
  · rw [List.getElem?_eraseIdx] at hp hq ho hu
    by_cases a1 : i < k <;> by_cases a2 : j < k
    all_goals simp only [a1, a2, if_true, if_false] at hp hq ho hu
    · exact h3 t i j p q hij hp hq ho hu
    · exact h3 t i (j + 1) p q (by omega) hp hq ho hu
    · omega
    · exact h3 t (i + 1) (j + 1) p q (by omega) hp hq ho hu
/-- No leg has more than the seats that are used. -/
theorem seat_most {xs : List B3} {out : List Int} (h : SeatOk xs out) (leg : Int) (k : Bool) (m : Nat) (hm : ∀ (j : Nat) q o, xs[j]? = some q → out[j]? = some o → q.c = k → o < m) : taken xs leg k ≤ m := by
  rw [← cnt_all xs out leg k m h.1 (fun j q o h1 h2 h3 => ⟨(h.2.1 j q o h1 h2).1, hm j q o h1 h2 h3⟩)]
  exact cnt_most xs out leg k h.2.2 m

/-! ### The plan -/
/-- The bookings of one stop get their seats, in order. -/
def inn (xs : List B3) (stop : Int) (out0 : List Int) : Nat → List Int
  | 0 => out0
  | j + 1 => match xs[j]? with
    | some p => if p.a = stop then (inn xs stop out0 j).set j (pick xs (inn xs stop out0 j) p) else inn xs stop out0 j
    | none => inn xs stop out0 j
def plan (xs : List B3) : Nat → List Int
  | 0 => List.replicate xs.length (-1)
  | s + 1 => inn xs s (plan xs s) xs.length
/-- The plan where all stops ahead of one and, of that one, all bookings ahead of i are done. -/
def PlanIs (xs : List B3) (stop : Int) (i : Nat) (out : List Int) : Prop :=
  out.length = xs.length ∧
    (∀ (k : Nat) q o, xs[k]? = some q → out[k]? = some o → (o = -1 ∧ (stop < q.a ∨ (q.a = stop ∧ i ≤ k))) ∨ (0 ≤ o ∧ o < capOf q.c ∧ (q.a < stop ∨ (q.a = stop ∧ k < i)) ∧ o + 1 ≤ taken xs q.a q.c)) ∧
    ∀ (t : Int) (k l : Nat) q r, 0 ≤ t → k < l → xs[k]? = some q → xs[l]? = some r → out[k]? = some t → out[l]? = some t → ¬ meetB r q
theorem meet_symm {p q : B3} (h : meetB p q) : meetB q p := ⟨h.1.symm, h.2.2, h.2.1⟩
theorem plan_start {n : Int} {xs : List B3} (h : ∀ p ∈ xs, OkB n p) : PlanIs xs 0 0 (List.replicate xs.length (-1)) := by
  refine ⟨by simp, fun k q o hq ho => ?_, fun t k l q r ht hkl hq hr ho hu => ?_⟩
  · have := h q (mem_at hq)
    unfold OkB at this
    rw [List.getElem?_replicate] at ho
    split at ho
    · injection ho with ho
      left
      refine ⟨ho.symm, ?_⟩
      by_cases e : q.a = 0
      · exact .inr ⟨e, by omega⟩
      · exact .inl (by omega)
    · cases ho
  · rw [List.getElem?_replicate] at ho
    split at ho
    · injection ho with ho
      omega
    · cases ho
theorem plan_skip {xs : List B3} {stop : Int} {i : Nat} {out : List Int} {p : B3} (h : PlanIs xs stop i out) (hx : xs[i]? = some p) (hn : p.a ≠ stop) : PlanIs xs stop (i + 1) out := by
  obtain ⟨h1, h2, h3⟩ := h
  refine ⟨h1, fun k q o hq ho => ?_, h3⟩
  by_cases e : k = i
  · subst e
    rw [hx] at hq
    injection hq with hq
    subst hq
    rcases h2 k p o hx ho with ⟨a, b⟩ | ⟨a, b, c, d⟩
    · exact .inl ⟨a, by omega⟩
    · exact .inr ⟨a, b, by omega, d⟩
  · rcases h2 k q o hq ho with ⟨a, b⟩ | ⟨a, b, c, d⟩
    · exact .inl ⟨a, by omega⟩
    · exact .inr ⟨a, b, by omega, d⟩
theorem plan_turn {xs : List B3} {stop : Int} {out : List Int} (h : PlanIs xs stop xs.length out) : PlanIs xs (stop + 1) 0 out := by
  obtain ⟨h1, h2, h3⟩ := h
  refine ⟨h1, fun k q o hq ho => ?_, h3⟩
  have hk := (List.getElem?_eq_some_iff.1 hq).1
  rcases h2 k q o hq ho with ⟨a, b⟩ | ⟨a, b, c, d⟩
  · exact .inl ⟨a, by omega⟩
  · exact .inr ⟨a, b, by omega, d⟩
/-- What the pick is: in its range, free, all lower ones taken, no more than are on the first leg. -/
theorem plan_pick {n : Int} {xs : List B3} {stop : Int} {i : Nat} {out : List Int} {p : B3} (hB : BookOk n xs) (h : PlanIs xs stop i out) (hx : xs[i]? = some p) (hs : p.a = stop) :
    out[i]? = some (-1) ∧ pick xs out p < capOf p.c ∧ blk xs out p (pick xs out p) = false ∧ (∀ t : Nat, t < pick xs out p → blk xs out p t = true) ∧ (pick xs out p : Int) + 1 ≤ taken xs p.a p.c := by
  obtain ⟨h1, h2, h3⟩ := h
  have hil := (List.getElem?_eq_some_iff.1 hx).1
  have hc := capOf_bd p.c
  have hok := hB.2.2.2.1 p (mem_at hx)
  unfold OkB at hok
  have hi : out[i]? = some (-1) := by
    obtain ⟨o, ho⟩ : ∃ o, out[i]? = some o := ⟨_, List.getElem?_eq_getElem (by omega)⟩
    rcases h2 i p o hx ho with ⟨a, b⟩ | ⟨a, b, c, d⟩
    · rw [ho, a]
    · omega
  have hbd := pickF_bd (blk xs out p) (capOf p.c - 1) 0
  have hbl := pickF_below (blk xs out p) (capOf p.c - 1) 0
  have hfr := pickF_free (blk xs out p) (capOf p.c - 1) 0
  have key : ∀ m : Nat, (∀ t : Nat, t < m → blk xs out p t = true) → (m : Int) + 1 ≤ taken xs p.a p.c := by
    intro m hm
    have g1 := cnt_ge xs out p.a p.c m (fun t ht => by
      obtain ⟨k, q, k1, k2, k3⟩ := (blk_iff _ _ _ _).1 (hm t ht)
      have hq := hB.2.2.2.1 q (mem_at k1)
      unfold OkB at hq
      refine ⟨k, q, k1, k2, k3.1.symm, ?_, k3.2.1⟩
      rcases h2 k q t k1 k2 with ⟨a, b⟩ | ⟨a, b, c, d⟩
      · omega
      · omega)
    have g2 := cnt_lt xs out p.a p.c m i p hx hi rfl (Int.le_refl _) hok.2.1
    omega
  have hlt : pick xs out p < capOf p.c := by unfold pick; omega
  have hlow : ∀ t : Nat, t < pick xs out p → blk xs out p t = true := fun t ht => hbl t (by omega) ht
  refine ⟨hi, hlt, ?_, hlow, key _ hlow⟩
  cases hb : blk xs out p (pick xs out p) with
  | false => rfl
  | true =>
    have := key (pick xs out p + 1) (fun t ht => by
      by_cases e : t = pick xs out p
      · rw [e]; exact hb
      · exact hlow t (by omega))
    have hle := hB.2.2.2.2 p.a.toNat (by omega)
    rw [Int.toNat_of_nonneg hok.1] at hle
    have : (pick xs out p : Int) + 1 < capOf p.c := by
      cases hk : p.c
      · rw [hk] at this
        simp only [capOf, Bool.false_eq_true, if_false]
        omega
      · rw [hk] at this
        simp only [capOf, if_true]
        omega
    exact absurd hb (by rw [show pick xs out p = pickF (blk xs out p) (capOf p.c - 1) 0 from rfl, hfr (by unfold pick at this; omega)]; simp)
theorem plan_step {n : Int} {xs : List B3} {stop : Int} {i : Nat} {out : List Int} {p : B3} (hB : BookOk n xs) (h : PlanIs xs stop i out) (hx : xs[i]? = some p) (hs : p.a = stop) : PlanIs xs stop (i + 1) (out.set i (pick xs out p)) := by
  obtain ⟨hi, hlt, hfr, hlow, htk⟩ := plan_pick hB h hx hs
  obtain ⟨h1, h2, h3⟩ := h
  have hil := (List.getElem?_eq_some_iff.1 hx).1
  generalize pick xs out p = s at *
  have other : ∀ (k : Nat) (o : Int), k ≠ i → (out.set i (s : Int))[k]? = some o → out[k]? = some o := fun k o hk ho => by
    rwa [List.getElem?_set_ne (fun e => hk e.symm)] at ho
  have same : ∀ o : Int, (out.set i (s : Int))[i]? = some o → o = s := fun o ho => by
    rw [List.getElem?_set_self (by omega)] at ho
    injection ho with ho
    exact ho.symm
  refine ⟨by rw [List.length_set]; exact h1, fun k q o hq ho => ?_, fun t k l q r ht hkl hq hr ho hu => ?_⟩
  · by_cases e : k = i
    · subst e
      rw [hx] at hq
      injection hq with hq
      subst hq
      have := same o ho
      subst this
      exact .inr ⟨by omega, by omega, by omega, htk⟩
    · rcases h2 k q o hq (other k o e ho) with ⟨a, b⟩ | ⟨a, b, c, d⟩
      · exact .inl ⟨a, by omega⟩
      · exact .inr ⟨a, b, by omega, d⟩
  · have no : ∀ (k : Nat) q, xs[k]? = some q → k ≠ i → (out.set i (s : Int))[k]? = some (s : Int) → ¬ meetB p q := fun k q hk hne hs' hm => by
      have := (blk_iff xs out p s).2 ⟨k, q, hk, other k _ hne hs', hm⟩
      rw [hfr] at this
      cases this
    by_cases e1 : k = i
    · subst e1
      rw [hx] at hq
      injection hq with hq
      subst hq
      have := same t ho
      subst this
      exact fun hm => no l r hr (by omega) hu (meet_symm hm)
    · by_cases e2 : l = i
      · subst e2
        rw [hx] at hr
        injection hr with hr
        subst hr
        have := same t hu
        subst this
        exact no k q hq (by omega) ho
      · exact h3 t k l q r ht hkl hq hr (other k t e1 ho) (other l t e2 hu)
theorem inn_next {xs : List B3} {stop : Int} {out0 : List Int} {j : Nat} {p : B3} (h : xs[j]? = some p) : inn xs stop out0 (j + 1) = if p.a = stop then (inn xs stop out0 j).set j (pick xs (inn xs stop out0 j) p) else inn xs stop out0 j := by
  rw [inn, h]
theorem inn_is {n : Int} {xs : List B3} {stop : Int} {out0 : List Int} (hB : BookOk n xs) (h : PlanIs xs stop 0 out0) : ∀ j, j ≤ xs.length → PlanIs xs stop j (inn xs stop out0 j)
  | 0, _ => h
  | j + 1, hj => by
    have ih := inn_is hB h j (by omega)
    obtain ⟨p, hp⟩ : ∃ p, xs[j]? = some p := ⟨_, List.getElem?_eq_getElem (by omega)⟩
    rw [inn_next hp]
    by_cases e : p.a = stop
    · rw [if_pos e]; exact plan_step hB ih hp e
    · rw [if_neg e]; exact plan_skip ih hp e
theorem plan_is {n : Int} {xs : List B3} (hB : BookOk n xs) : ∀ s : Nat, PlanIs xs s 0 (plan xs s)
  | 0 => plan_start hB.2.2.2.1
  | s + 1 => plan_turn (inn_is hB (plan_is hB s) xs.length (Nat.le_refl _))
theorem plan_len {n : Int} {xs : List B3} (hB : BookOk n xs) (s : Nat) : (plan xs s).length = xs.length := (plan_is hB s).1
/-- The whole plan is a seating; each seat is no higher than the bookings on the first leg of its own. -/
theorem plan_all {n : Nat} {xs : List B3} (hB : BookOk n xs) : SeatOk xs (plan xs n) ∧ ∀ (k : Nat) q o, xs[k]? = some q → (plan xs n)[k]? = some o → o + 1 ≤ taken xs q.a q.c := by
  obtain ⟨h1, h2, h3⟩ := plan_is hB n
  have key : ∀ (k : Nat) q o, xs[k]? = some q → (plan xs n)[k]? = some o → 0 ≤ o ∧ o < capOf q.c ∧ o + 1 ≤ taken xs q.a q.c := fun k q o hq ho => by
    have hok := hB.2.2.2.1 q (mem_at hq)
    unfold OkB at hok
    rcases h2 k q o hq ho with ⟨a, b⟩ | ⟨a, b, c, d⟩
    · omega
    · exact ⟨a, b, d⟩
  exact ⟨⟨h1, fun k q o hq ho => ⟨(key k q o hq ho).1, (key k q o hq ho).2.1⟩, fun t i j p q hij hp hq ho hu => h3 t i j p q (key i p t hp ho).1 hij hp hq ho hu⟩, fun k q o hq ho => (key k q o hq ho).2.2⟩

/-! ### The seats of a coach as sets of legs -/
/-- The legs on which the seat s of a kind is taken. -/
def occ : List B3 → List Int → Bool → Int → Nat
  | q :: xs, o :: out, k, s => (if q.c = k ∧ o = s then legs q.a.toNat q.b.toNat else 0) ||| occ xs out k s
  | _, _, _, _ => 0
theorem legs_lt128 (f t : Nat) (ht : t ≤ 7) : legs f t < 2 ^ 7 := by
  unfold legs
  by_cases e : t = 0
  · subst e; have : 2 ^ 0 - 2 ^ f ≤ 1 := Nat.sub_le _ _; omega
  · have h1 : 2 ^ t ≤ 2 ^ 7 := Nat.pow_le_pow_right (by omega) ht
    have h2 : 0 < 2 ^ f := Nat.pow_pos (by omega)
    have h3 : 0 < 2 ^ t := Nat.pow_pos (by omega)
    omega
theorem occ_lt : ∀ (xs : List B3) (out : List Int) (k : Bool) (s : Int), (∀ p ∈ xs, OkB 7 p) → occ xs out k s < 2 ^ 7
  | [], out, k, s, _ => by simp [occ]
  | q :: xs, [], k, s, _ => by simp [occ]
  | q :: xs, o :: out, k, s, h => by
    have h1 := occ_lt xs out k s (fun p hp => h p (List.mem_cons_of_mem _ hp))
    have h2 := h q (List.mem_cons_self ..)
    unfold OkB at h2
    unfold occ
    refine Nat.or_lt_two_pow ?_ h1
    split
    · exact legs_lt128 _ _ (by omega)
    · decide
theorem legs_meetB {p q : B3} (hp : OkB 7 p) (hq : OkB 7 q) : (legs q.a.toNat q.b.toNat &&& legs p.a.toNat p.b.toNat ≠ 0) ↔ (p.a < q.b ∧ q.a < p.b) := by
  unfold OkB at hp hq
  have h := legs_meet ⟨q.a.toNat, by omega⟩ ⟨q.b.toNat, by omega⟩ ⟨p.a.toNat, by omega⟩ ⟨p.b.toNat, by omega⟩ (by simp; omega) (by simp; omega)
  simp only at h
  rw [h]
  omega
theorem or_ne_zero (a b : Nat) : (a ||| b ≠ 0) ↔ (a ≠ 0 ∨ b ≠ 0) := by
  rw [Ne, Nat.or_eq_zero_iff]
  omega
theorem occ_blk : ∀ (xs : List B3) (out : List Int) (p : B3) (s : Int), (∀ q ∈ xs, OkB 7 q) → OkB 7 p → ((occ xs out p.c s &&& legs p.a.toNat p.b.toNat ≠ 0) ↔ blk xs out p s = true)
  | [], out, p, s, _, _ => by simp [occ, blk]
  | q :: xs, [], p, s, _, _ => by simp [occ, blk]
  | q :: xs, o :: out, p, s, h, hp => by
    have ih := occ_blk xs out p s (fun r hr => h r (List.mem_cons_of_mem _ hr)) hp
    have hq := h q (List.mem_cons_self ..)
    unfold occ blk
    rw [Nat.and_or_distrib_right, or_ne_zero, ih, Bool.or_eq_true, Bool.and_eq_true, decide_eq_true_eq, decide_eq_true_eq]
    refine or_congr ?_ Iff.rfl
    by_cases h1 : q.c = p.c ∧ o = s
    · rw [if_pos h1, legs_meetB hp hq]
      unfold meetB
      exact ⟨fun h2 => ⟨h1.2, h1.1.symm, h2⟩, fun h2 => h2.2.2⟩
    · rw [if_neg h1]
      simp only [Nat.zero_and, ne_eq, not_true, false_iff]
      unfold meetB
      exact fun h2 => h1 ⟨h2.2.1.symm, h2.1⟩
theorem occ_none : ∀ (xs : List B3) (m : Nat) (k : Bool) (s : Int), 0 ≤ s → occ xs (List.replicate m (-1)) k s = 0
  | [], m, k, s, _ => by simp [occ]
  | q :: xs, 0, k, s, _ => by simp [occ]
  | q :: xs, m + 1, k, s, h => by
    rw [List.replicate_succ, occ, occ_none xs m k s h, if_neg (fun h1 => by omega)]
    rfl
theorem occ_set : ∀ (xs : List B3) (out : List Int) (i : Nat) (p : B3) (t : Int) (k : Bool) (s : Int), xs[i]? = some p → out[i]? = some (-1) → 0 ≤ s → 
    occ xs (out.set i t) k s = occ xs out k s ||| (if p.c = k ∧ t = s then legs p.a.toNat p.b.toNat else 0)
  | [], out, i, p, t, k, s, h, _, _ => by simp at h
  | q :: xs, [], i, p, t, k, s, _, h, _ => by simp at h
  | q :: xs, o :: out, 0, p, t, k, s, h1, h2, h3 => by
    simp only [List.getElem?_cons_zero, Option.some.injEq] at h1 h2
    subst h1 h2
    rw [List.set_cons_zero, occ, occ, if_neg (c := q.c = k ∧ (-1 : Int) = s) (fun h => by omega), Nat.zero_or, Nat.or_comm]
  | q :: xs, o :: out, i + 1, p, t, k, s, h1, h2, h3 => by
    rw [List.set_cons_succ, occ, occ, occ_set xs out i p t k s h1 h2 h3, Nat.or_assoc]
theorem occ_append : ∀ (xs : List B3) (out : List Int) (p : B3) (o : Int) (k : Bool) (s : Int), out.length = xs.length →
    occ (xs ++ [p]) (out ++ [o]) k s = occ xs out k s ||| (if p.c = k ∧ o = s then legs p.a.toNat p.b.toNat else 0)
  | [], [], p, o, k, s, _ => by simp [occ]
  | [], o' :: out, p, o, k, s, h => by simp at h
  | q :: xs, [], p, o, k, s, h => by simp at h
  | q :: xs, o' :: out, p, o, k, s, h => by
    rw [List.cons_append, List.cons_append, occ, occ, occ_append xs out p o k s (by simpa using h), Nat.or_assoc]
theorem occ_next {xs : List B3} {out : List Int} {i : Nat} {p : B3} {o : Int} (hx : xs[i]? = some p) (ho : out[i]? = some o) (k : Bool) (s : Int) :
    occ (xs.take (i + 1)) (out.take (i + 1)) k s = occ (xs.take i) (out.take i) k s ||| (if p.c = k ∧ o = s then legs p.a.toNat p.b.toNat else 0) := by
  have hxl := (List.getElem?_eq_some_iff.1 hx).1
  have hol := (List.getElem?_eq_some_iff.1 ho).1
  rw [take_next hx, take_next ho, occ_append _ _ _ _ _ _ (by rw [List.length_take, List.length_take]; omega)]
end Go.Proofs.YtgjllminidlolaaGreatDoor
/- Plain mathematics of scripts: lines, words, numbers. -/
set_option linter.unusedVariables false
namespace Go.Proofs.YtgjllminidlolaaGreatDoor

/-- A list of bytes as a string. -/
def bs (l : List UInt8) : ByteArray := ⟨l.toArray⟩
theorem bs_data (l : List UInt8) : (bs l).data.toList = l := rfl
theorem bs_size (l : List UInt8) : (bs l).size = l.length := rfl
theorem bs_of (s : ByteArray) : bs s.data.toList = s := rfl
theorem bs_append (l r : List UInt8) : bs l ++ bs r = bs (l ++ r) := by
  apply ByteArray.ext
  simp [bs]
/-- What is between a byte. -/
def cutL (c : UInt8) : List UInt8 → List (List UInt8)
  | [] => [[]]
  | b :: l => if b = c then [] :: cutL c l else match cutL c l with
    | p :: ps => (b :: p) :: ps
    | [] => [[b]]
theorem cutL_ne (c : UInt8) (l : List UInt8) : cutL c l ≠ [] := by
  cases l with
  | nil => simp [cutL]
  | cons b l =>
    unfold cutL
    split
    · simp
    · split <;> simp
theorem index_one (c b : UInt8) (l : List UInt8) : Lib.index (b :: l) [c] = if b = c then 0 else if Lib.index l [c] == -1 then -1 else Lib.index l [c] + 1 := by
  rw [Lib.index]
  by_cases h : b = c
  · subst h; simp
  · have h2 : ([c] : List UInt8).isPrefixOf (b :: l) = false := by
      simp [List.isPrefixOf]
      exact fun e => h e.symm
    rw [h2, if_neg (by simp), if_neg h]
theorem cutL_miss (c : UInt8) : ∀ l : List UInt8, Lib.index l [c] = -1 → cutL c l = [l]
  | [], _ => rfl
  | b :: l, h => by
    rw [index_one] at h
    split at h
    · omega
    · rename_i hb
      split at h
      · rename_i h1
        have ih := cutL_miss c l (by simpa using h1)
        rw [cutL, if_neg hb, ih]
      · rename_i h1
        have := Lib.index_ge l [c]
        simp at h1
        omega
theorem cutL_hit (c : UInt8) : ∀ (l : List UInt8) (i : Nat), Lib.index l [c] = i → cutL c l = l.take i :: cutL c (l.drop (i + 1))
  | [], i, h => by simp [Lib.index] at h
  | b :: l, i, h => by
    rw [index_one] at h
    split at h
    · rename_i hb
      obtain rfl : i = 0 := by omega
      rw [cutL, if_pos hb]
      rfl
    · rename_i hb
      split at h
      · omega
      · have := Lib.index_ge l [c]
        obtain ⟨j, rfl⟩ : ∃ j, i = j + 1 := ⟨i - 1, by
          rename_i h1
          simp at h1
          omega⟩
        have ih := cutL_hit c l j (by omega)
        rw [cutL, if_neg hb, ih]
        rfl
theorem splitK_cut (c : UInt8) : ∀ (n : Nat) (l : List UInt8), l.length ≤ n → Lib.splitK [c] 0 (Lib.count l [c]) l = cutL c l
  | 0, l, h => by
    obtain rfl : l = [] := List.eq_nil_of_length_eq_zero (by omega)
    rw [Lib.count_miss (by simp [Lib.index])]
    rfl
  | n + 1, l, h => by
    rcases Int.lt_or_le (Lib.index l [c]) 0 with h1 | h1
    · have h2 : Lib.index l [c] = -1 := by have := Lib.index_ge l [c]; omega
      rw [Lib.count_miss h2, cutL_miss c l h2]
      rfl
    · obtain ⟨i, hi⟩ : ∃ i : Nat, Lib.index l [c] = i := ⟨(Lib.index l [c]).toNat, by omega⟩
      have hr := Lib.index_room l [c] h1
      simp only [List.length_singleton] at hr
      rw [Lib.count_hit (by simp) hi, Nat.add_comm, Lib.splitK, hi, if_neg (by simp), cutL_hit c l i hi]
      simp only [Int.toNat_natCast, Nat.add_zero, List.length_singleton]
      rw [splitK_cut c n (l.drop (i + 1)) (by rw [List.length_drop]; omega)]
/-- What strings.Split gives at a separator of one byte. -/
theorem splitB_cut (c : UInt8) (s : ByteArray) : Lib.splitB (bs [c]) 0 (Lib.countB s (bs [c])) s = (cutL c s.data.toList).map bs := by
  have h1 := Lib.splitB_data (bs [c]) 0 (Lib.countB s (bs [c])) s
  have h2 : Lib.countB s (bs [c]) = Lib.count s.data.toList [c] := rfl
  rw [bs_data, h2, splitK_cut c _ _ (Nat.le_refl _)] at h1
  rw [h2]
  rw [← h1, List.map_map]
  conv => lhs; rw [← List.map_id (Lib.splitB (bs [c]) 0 (Lib.count s.data.toList [c]) s)]
  rfl
theorem countB_cut (c : UInt8) (s : ByteArray) : Lib.countB s (bs [c]) + 1 = (cutL c s.data.toList).length := by
  have h := Lib.splitB_all (bs [c]) (Nat.le_refl 1) 0 _ s rfl
  rw [splitB_cut, List.length_map] at h
  omega
theorem cutL_end (c : UInt8) : ∀ l : List UInt8, c ∉ l → cutL c l = [l]
  | [], _ => rfl
  | b :: l, h => by
    simp only [List.mem_cons, not_or] at h
    rw [cutL, if_neg (fun e => h.1 e.symm), cutL_end c l h.2]
theorem cutL_line (c : UInt8) : ∀ (l r : List UInt8), c ∉ l → cutL c (l ++ c :: r) = l :: cutL c r
  | [], r, _ => by rw [List.nil_append, cutL, if_pos rfl]
  | b :: l, r, h => by
    simp only [List.mem_cons, not_or] at h
    rw [List.cons_append, cutL, if_neg (fun e => h.1 e.symm), cutL_line c l r h.2]
/-- A text of lines. -/
def textOf (ls : List (List UInt8)) : List UInt8 := ls.flatMap (· ++ [10])
theorem cutL_text : ∀ (ls : List (List UInt8)), (∀ l ∈ ls, (10 : UInt8) ∉ l) → cutL 10 (textOf ls) = ls ++ [[]]
  | [], _ => rfl
  | l :: ls, h => by
    have e : textOf (l :: ls) = l ++ 10 :: textOf ls := by simp [textOf]
    rw [e, cutL_line 10 l _ (h l (List.mem_cons_self ..)), cutL_text ls (fun q hq => h q (List.mem_cons_of_mem _ hq))]
    rfl
theorem textOf_snoc (ls : List (List UInt8)) (l : List UInt8) : textOf (ls ++ [l]) = textOf ls ++ (l ++ [10]) := by simp [textOf]

/-! ### Numbers -/
def isDig (c : UInt8) : Bool := 48 ≤ c && c ≤ 57
/-- The number of digits. -/
def numD : List UInt8 → Int → Int
  | [], a => a
  | c :: l, a => numD l (a * 10 + ((c.toNat : Int) - 48))
/-- The number of a word; 99999 for none. -/
def numL (l : List UInt8) : Int := if 1 ≤ l.length ∧ l.length ≤ 5 ∧ l.all isDig = true then numD l 0 else 99999
theorem numD_append : ∀ (l r : List UInt8) (a : Int), numD (l ++ r) a = numD r (numD l a)
  | [], r, a => rfl
  | c :: l, r, a => by rw [List.cons_append, numD, numD, numD_append l r]
theorem dig_digit (u : Nat) (h : u < 10) : isDig (UInt8.ofNat (48 + u)) = true ∧ ((UInt8.ofNat (48 + u)).toNat : Int) - 48 = u := by
  rcases (by omega : u = 0 ∨ u = 1 ∨ u = 2 ∨ u = 3 ∨ u = 4 ∨ u = 5 ∨ u = 6 ∨ u = 7 ∨ u = 8 ∨ u = 9) with rfl | rfl | rfl | rfl | rfl | rfl | rfl | rfl | rfl | rfl <;> decide
theorem numD_dec : ∀ (n u : Nat), u ≤ n → numD (Lib.decDigits u) 0 = u ∧ (Lib.decDigits u).all isDig = true
  | n, u, h => by
    rw [Lib.decDigits]
    split
    · rename_i h1
      have := dig_digit u h1
      simp only [numD, List.all_cons, List.all_nil, Bool.and_true]
      exact ⟨by omega, this.1⟩
    · rename_i h1
      cases n with
      | zero => omega
      | succ n =>
        have ih := numD_dec n (u / 10) (by omega)
        have hd := dig_digit (u % 10) (by omega)
        rw [numD_append, ih.1, List.all_append, ih.2]
        simp only [numD, List.all_cons, List.all_nil, Bool.and_true, Bool.true_and]
        exact ⟨by omega, hd.1⟩
theorem decDigits_len : ∀ (n u : Nat), 1 ≤ n → u < 10 ^ n → (Lib.decDigits u).length ≤ n
  | n, u, h1, h => by
    rw [Lib.decDigits]
    split
    · simpa using h1
    · rename_i h2
      cases n with
      | zero => omega
      | succ n =>
        by_cases hn : n = 0
        · subst hn; omega
        · have := decDigits_len n (u / 10) (by omega) (by rw [Nat.pow_succ] at h; omega)
          simp only [List.length_append, List.length_singleton]
          omega
theorem decDigits_pos (u : Nat) : 1 ≤ (Lib.decDigits u).length := by
  rw [Lib.decDigits]
  split <;> simp
theorem numL_dec (u : Nat) (h : u < 100000) : numL (Lib.decDigits u) = u := by
  have h1 := numD_dec u u (Nat.le_refl _)
  rw [numL, if_pos ⟨decDigits_pos u, decDigits_len 5 u (by omega) h, h1.2⟩, h1.1]
theorem decDigits_mem (u : Nat) (c : UInt8) (h : isDig c = false) : c ∉ Lib.decDigits u := fun hc => by
  have := List.all_eq_true.1 (numD_dec u u (Nat.le_refl _)).2 c hc
  rw [h] at this
  cases this
end Go.Proofs.YtgjllminidlolaaGreatDoor
/- Plain mathematics of what a script tells: joined lines and numbers. -/
set_option linter.unusedVariables false
namespace Go.Proofs.YtgjllminidlolaaGreatDoor

theorem joinTail_snoc (sep : List UInt8) (r : List (List UInt8)) (x : List UInt8) : Lib.joinTail sep (r ++ [x]) = Lib.joinTail sep r ++ (sep ++ x) := by
  simp [Lib.joinTail]
theorem join_snoc (sep : List UInt8) (xs : List (List UInt8)) (x : List UInt8) : Lib.join (xs ++ [x]) sep = if xs = [] then x else Lib.join xs sep ++ (sep ++ x) := by
  cases xs with
  | nil => rw [List.nil_append, if_pos rfl, Lib.join_one]
  | cons y ys => rw [if_neg (by simp), List.cons_append, Lib.join_cons, Lib.join_cons, joinTail_snoc, List.append_assoc]
/-- Lines joined, with one more newline. -/
theorem join_lines : ∀ (xs : List (List UInt8)), xs ≠ [] → Lib.join xs [10] ++ [10] = textOf xs
  | [], h => absurd rfl h
  | [x], _ => by rw [Lib.join_one]; simp [textOf]
  | x :: y :: r, _ => by
    have ih := join_lines (y :: r) (by simp)
    have e : textOf (x :: y :: r) = x ++ [10] ++ textOf (y :: r) := by simp [textOf]
    rw [e, ← ih, Lib.join_cons, Lib.join_cons]
    simp [Lib.joinTail]
/-- Numbers with spaces between. -/
def spacedL (ns : List Int) : List UInt8 := Lib.join (ns.map fun n => Lib.decDigits n.toNat) [32]
theorem spacedL_nil : spacedL [] = [] := rfl
theorem spacedL_snoc (ns : List Int) (n : Int) : spacedL (ns ++ [n]) = if ns = [] then Lib.decDigits n.toNat else spacedL ns ++ ([32] ++ Lib.decDigits n.toNat) := by
  unfold spacedL
  rw [List.map_append, List.map_singleton, join_snoc]
  simp only [List.map_eq_nil_iff]
/-- The last line. -/
def endL (a b c : Nat) : List UInt8 := [114, 111, 97, 100, 115, 32] ++ Lib.decDigits a ++ [32, 99, 111, 97, 99, 104, 101, 115, 32] ++ Lib.decDigits b ++ [32, 98, 111, 111, 107, 105, 110, 103, 115, 32] ++ Lib.decDigits c
def okL : List UInt8 := [111, 107]
theorem text_ok (n : Nat) : textOf (List.replicate (n + 1) okL) = textOf (List.replicate n okL) ++ [111, 107, 10] := by
  rw [List.replicate_succ', textOf_snoc]
  rfl
theorem textOf_append (a b : List (List UInt8)) : textOf (a ++ b) = textOf a ++ textOf b := by simp [textOf]
end Go.Proofs.YtgjllminidlolaaGreatDoor
/- Plain mathematics of the script of seats. -/
set_option linter.unusedVariables false
namespace Go.Proofs.YtgjllminidlolaaGreatDoor

/-- The word of a kind of seat. -/
def kindL (z : Bool) : List UInt8 := if z = true then [105, 110, 115, 105, 100, 101] else [111, 117, 116, 115, 105, 100, 101]
/-- The line of a booking. -/
def lineB (p : B3) : List UInt8 := kindL p.c ++ 32 :: (Lib.decDigits p.a.toNat ++ 32 :: Lib.decDigits p.b.toNat)
def seatsL : List UInt8 := [115, 101, 97, 116, 115]
theorem kindL_no (z : Bool) (c : UInt8) (h : c.toNat < 97) : c ∉ kindL z := by
  have h1 : ∀ z : Bool, ∀ x ∈ kindL z, 97 ≤ x.toNat := by decide
  intro hc
  have := h1 z c hc
  omega
theorem lineB_cut (p : B3) : cutL 32 (lineB p) = [kindL p.c, Lib.decDigits p.a.toNat, Lib.decDigits p.b.toNat] := by
  unfold lineB
  rw [cutL_line 32 _ _ (kindL_no _ _ (by decide)), cutL_line 32 _ _ (decDigits_mem _ _ rfl), cutL_end 32 _ (decDigits_mem _ _ rfl)]
theorem lineB_no (p : B3) : (10 : UInt8) ∉ lineB p := by
  unfold lineB
  simp only [List.mem_append, List.mem_cons, not_or]
  exact ⟨kindL_no _ _ (by decide), by decide, decDigits_mem _ _ rfl, by decide, decDigits_mem _ _ rfl⟩
theorem lineB_len (p : B3) (ha : p.a < 10) (hb : p.b < 10) : (lineB p).length ≤ 11 := by
  have h1 := decDigits_len 1 p.a.toNat (by omega) (by omega)
  have h2 := decDigits_len 1 p.b.toNat (by omega) (by omega)
  have h3 : (kindL p.c).length ≤ 7 := by unfold kindL; split <;> decide
  unfold lineB
  simp only [List.length_append, List.length_cons]
  omega
/-- The lines of a script of seats. -/
def seatLines (xs : List B3) : List (List UInt8) := xs.map lineB ++ [seatsL]
theorem seat_cut (xs : List B3) : cutL 10 (textOf (seatLines xs)) = seatLines xs ++ [[]] := by
  refine cutL_text _ fun l hl => ?_
  rcases List.mem_append.1 hl with h | h
  · obtain ⟨p, _, rfl⟩ := List.mem_map.1 h
    exact lineB_no p
  · simp only [List.mem_singleton] at h
    subst h
    decide
theorem textOf_len (m : Nat) : ∀ (ls : List (List UInt8)), (∀ l ∈ ls, l.length ≤ m) → (textOf ls).length ≤ ls.length * (m + 1)
  | [], _ => by simp [textOf]
  | l :: ls, h => by
    have h1 := textOf_len m ls (fun q hq => h q (List.mem_cons_of_mem _ hq))
    have h2 := h l (List.mem_cons_self ..)
    have e : textOf (l :: ls) = (l ++ [10]) ++ textOf ls := by simp [textOf]
    rw [e, List.length_append, List.length_append, List.length_singleton, List.length_cons, Nat.succ_mul]
    omega
theorem seat_len {n : Int} {xs : List B3} (h : BookOk n xs) : (textOf (seatLines xs)).length ≤ 204 := by
  have h1 := textOf_len 11 (seatLines xs) (fun l hl => by
    rcases List.mem_append.1 hl with hh | hh
    · obtain ⟨p, hp, rfl⟩ := List.mem_map.1 hh
      have := h.2.2.2.1 p hp
      have := h.2.1
      unfold OkB at *
      exact lineB_len p (by omega) (by omega)
    · simp only [List.mem_singleton] at hh
      subst hh
      decide)
  have h2 := h.2.2.1
  unfold seatLines at h1 ⊢
  rw [List.length_append, List.length_map, List.length_singleton] at h1
  omega
/-- No booking takes a leg behind the last one. -/
theorem taken_far {n : Int} {leg : Int} {k : Bool} (hl : n ≤ leg) : ∀ xs : List B3, (∀ p ∈ xs, OkB n p) → taken xs leg k = 0
  | [], _ => rfl
  | p :: xs, h => by
    have h1 := h p (List.mem_cons_self ..)
    unfold OkB at h1
    rw [taken, taken_far hl xs (fun q hq => h q (List.mem_cons_of_mem _ hq)), if_neg (by omega)]
    rfl
theorem book_five {n : Int} {xs : List B3} (h : BookOk n xs) (hn : n ≤ 5) : BookOk 5 xs := by
  obtain ⟨h1, h2, h3, h4, h5⟩ := h
  refine ⟨by omega, by omega, h3, fun p hp => ?_, fun leg hl => ?_⟩
  · have := h4 p hp
    unfold OkB at this ⊢
    omega
  · by_cases hx : (leg : Int) < n
    · exact h5 leg hx
    · rw [taken_far (by omega) xs h4, taken_far (by omega) xs h4]
      omega
theorem book_take {n : Int} {xs : List B3} (h : BookOk n xs) (j : Nat) : BookOk n (xs.take j) := book_sub h (List.take_sublist j xs)
theorem inn_skip {xs : List B3} {stop : Int} {out : List Int} (h : ∀ p ∈ xs, p.a ≠ stop) : ∀ j, inn xs stop out j = out
  | 0 => rfl
  | j + 1 => by
    rw [inn]
    cases hx : xs[j]? with
    | none => exact inn_skip h j
    | some p =>
      dsimp only
      rw [if_neg (h p (List.mem_of_getElem? hx))]
      exact inn_skip h j
theorem plan_far {n : Nat} {xs : List B3} (h : ∀ p ∈ xs, OkB n p) : ∀ d, plan xs (n + d) = plan xs n
  | 0 => rfl
  | d + 1 => by
    rw [← Nat.add_assoc, plan, inn_skip (fun p hp => ?_), plan_far h d]
    have := h p hp
    unfold OkB at this
    omega
theorem plan_five {n : Nat} {xs : List B3} (h : BookOk n xs) (hn : n ≤ 5) : plan xs 5 = plan xs n := by
  have := plan_far h.2.2.2.1 (5 - n)
  rw [show n + (5 - n) = 5 by omega] at this
  exact this
/-- The lines told by so many lines of a script. -/
def told (outs : Nat → List ByteArray) : Nat → List ByteArray
  | 0 => []
  | j + 1 => told outs j ++ outs j
/-- What each line of a script of seats tells. -/
def seatOuts (xs : List B3) (j : Nat) : List ByteArray := if j < xs.length then [bs okL] else if j = xs.length then [bs (spacedL (plan xs 5))] else []
theorem seat_told (xs : List B3) : ∀ j, j ≤ xs.length → told (seatOuts xs) j = List.replicate j (bs okL)
  | 0, _ => rfl
  | j + 1, h => by
    rw [told, seat_told xs j (by omega), seatOuts, if_pos (by omega), List.replicate_succ']
theorem seat_told_all (xs : List B3) : told (seatOuts xs) (xs.length + 1) = List.replicate xs.length (bs okL) ++ [bs (spacedL (plan xs 5))] := by
  rw [told, seat_told xs _ (Nat.le_refl _), seatOuts, if_neg (by omega), if_pos rfl]
theorem seat_told_len (xs : List B3) : ∀ j, (told (seatOuts xs) j).length ≤ xs.length + 1 ∧ (told (seatOuts xs) j).length ≤ j
  | 0 => by simp [told]
  | j + 1 => by
    have ih := seat_told_len xs j
    have h1 : (seatOuts xs j).length ≤ 1 ∧ (xs.length < j → (seatOuts xs j).length = 0) := by
      unfold seatOuts
      split
      · exact ⟨Nat.le_refl _, fun h => absurd h (by omega)⟩
      · split
        · exact ⟨Nat.le_refl _, fun h => absurd h (by omega)⟩
        · exact ⟨Nat.zero_le _, fun _ => rfl⟩
    rw [told, List.length_append]
    rcases Nat.lt_or_ge xs.length j with h | h
    · have := h1.2 h
      omega
    · omega
/-- The output. -/
def seatOut (m : Nat) (out : List Int) : List UInt8 := textOf (List.replicate m okL) ++ spacedL out ++ [10] ++ (endL 0 0 m ++ [10])
theorem seat_out (xs : List B3) (out : List Int) (h : plan xs 5 = out) :
    Lib.join ((told (seatOuts xs) (xs.length + 1)).map (·.data.toList) ++ [endL 0 0 xs.length]) [10] ++ [10] = seatOut xs.length out := by
  rw [join_lines _ (by simp), seat_told_all, textOf_append, List.map_append, textOf_append, List.map_replicate, h]
  simp [seatOut, textOf, bs_data]
theorem decDigits_two (m : Nat) (h : m < 100) : (Lib.decDigits m).length ≤ 2 := decDigits_len 2 m (by omega) (by omega)
theorem endL_len (a b c : Nat) (ha : a < 100) (hb : b < 100) (hc : c < 100) : (endL a b c).length ≤ 40 := by
  have := decDigits_two a ha
  have := decDigits_two b hb
  have := decDigits_two c hc
  unfold endL
  simp only [List.length_append, List.length_cons, List.length_nil]
  omega
end Go.Proofs.YtgjllminidlolaaGreatDoor
/- Plain mathematics of tables: a list of numbers as a function. -/
set_option linter.unusedVariables false
namespace Go.Proofs.YtgjllminidlolaaGreatDoor

/-- A table of n numbers. -/
def tblL (n : Nat) (f : Int → Int) : List Int := (List.range n).map fun (k : Nat) => f (k : Int)
def updI (f : Int → Int) (t x : Int) : Int → Int := fun u => if u = t then x else f u
theorem updI_self (f : Int → Int) (t x : Int) : updI f t x t = x := by unfold updI; rw [if_pos rfl]
theorem updI_ne {f : Int → Int} {t x u : Int} (h : u ≠ t) : updI f t x u = f u := by unfold updI; rw [if_neg h]
theorem tblL_len (n : Nat) (f : Int → Int) : (tblL n f).length = n := by simp [tblL]
theorem tblL_at {n k : Nat} (f : Int → Int) (h : k < n) : (tblL n f)[k]? = some (f k) := by
  simp [tblL, h]
theorem tblL_set {n k : Nat} (f : Int → Int) (x : Int) : (tblL n f).set k x = tblL n (updI f k x) := by
  apply List.ext_getElem?
  intro j
  by_cases hj : j < n
  · rw [tblL_at _ hj]
    by_cases e : j = k
    · subst e
      rw [List.getElem?_set_self (by rw [tblL_len]; exact hj), updI_self]
    · rw [List.getElem?_set_ne (fun h => e h.symm), tblL_at _ hj, updI_ne (by omega)]
  · rw [List.getElem?_eq_none (by rw [List.length_set, tblL_len]; omega), List.getElem?_eq_none (by rw [tblL_len]; omega)]
theorem tblL_const (n : Nat) (x : Int) : tblL n (fun _ => x) = List.replicate n x := by
  apply List.ext_getElem?
  intro j
  by_cases hj : j < n
  · rw [tblL_at _ hj, List.getElem?_replicate, if_pos hj]
  · rw [List.getElem?_eq_none (by rw [tblL_len]; omega), List.getElem?_eq_none (by rw [List.length_replicate]; omega)]
theorem tblL_eq {n : Nat} {f g : Int → Int} (h : ∀ k : Nat, k < n → f k = g k) : tblL n f = tblL n g := by
  apply List.ext_getElem?
  intro j
  by_cases hj : j < n
  · rw [tblL_at _ hj, tblL_at _ hj, h j hj]
  · rw [List.getElem?_eq_none (by rw [tblL_len]; omega), List.getElem?_eq_none (by rw [tblL_len]; omega)]
theorem tblL_snoc (n : Nat) (f : Int → Int) : tblL (n + 1) f = tblL n f ++ [f n] := by
  simp [tblL, List.range_succ]
end Go.Proofs.YtgjllminidlolaaGreatDoor
/- Plain mathematics of roads: ways, distances, and that rounds over all roads find them. -/
set_option linter.unusedVariables false
namespace Go.Proofs.YtgjllminidlolaaGreatDoor

/-- Roads of n towns. -/
def RoadOk (n : Int) (xs : List T3) : Prop :=
  1 ≤ n ∧ n ≤ 8 ∧ xs.length ≤ 16 ∧ (∀ p ∈ xs, 0 ≤ p.a ∧ p.a < p.b ∧ p.b < n ∧ 1 ≤ p.c ∧ p.c ≤ 99) ∧ ∀ (i j : Nat) p q, i < j → xs[i]? = some p → xs[j]? = some q → ¬ (p.a = q.a ∧ p.b = q.b)
/-- A road between two towns. -/
def Edge (xs : List T3) (u v w : Int) : Prop := ∃ p ∈ xs, ((p.a = u ∧ p.b = v) ∨ (p.a = v ∧ p.b = u)) ∧ p.c = w
/-- A way of some length. -/
inductive Way (xs : List T3) (s : Int) : Int → Int → Prop
  | start : Way xs s s 0
  | on {u v d w : Int} : Way xs s u d → Edge xs u v w → Way xs s v (d + w)
/-- The distance. -/
def IsFar (xs : List T3) (s t d : Int) : Prop := Way xs s t d ∧ ∀ d', Way xs s t d' → d ≤ d'
theorem edge_bd {n : Int} {xs : List T3} (hok : RoadOk n xs) {u v w : Int} (h : Edge xs u v w) : 0 ≤ u ∧ u < n ∧ 0 ≤ v ∧ v < n ∧ 1 ≤ w ∧ w ≤ 99 ∧ u ≠ v := by
  obtain ⟨p, hp, h1, rfl⟩ := h
  have := hok.2.2.2.1 p hp
  rcases h1 with ⟨rfl, rfl⟩ | ⟨rfl, rfl⟩ <;> omega
theorem edge_symm {xs : List T3} {u v w : Int} (h : Edge xs u v w) : Edge xs v u w := by
  obtain ⟨p, hp, h1, h2⟩ := h
  exact ⟨p, hp, h1.symm, h2⟩
theorem way_bd {n : Int} {xs : List T3} (hok : RoadOk n xs) {s t d : Int} (hs : 0 ≤ s ∧ s < n) (h : Way xs s t d) : 0 ≤ t ∧ t < n ∧ 0 ≤ d ∧ (d = 0 → t = s) := by
  induction h with
  | start => exact ⟨hs.1, hs.2, by omega, fun _ => rfl⟩
  | on h1 h2 ih =>
    have := edge_bd hok h2
    exact ⟨this.2.2.1, this.2.2.2.1, by omega, fun h => by omega⟩
/-- A table that is sound, and closed under roads, holds the distances. -/
theorem far_of_fix {xs : List T3} {s : Int} (S : Int → Prop) (f : Int → Int) (h0 : S s ∧ f s = 0) (hc : ∀ u v w, S u → Edge xs u v w → S v ∧ f v ≤ f u + w) : ∀ {t d : Int}, Way xs s t d → S t ∧ f t ≤ d := by
  intro t d h
  induction h with
  | start => exact ⟨h0.1, by omega⟩
  | on h1 h2 ih =>
    have := hc _ _ _ ih.1 h2
    exact ⟨this.1, by omega⟩
theorem far_unique {xs : List T3} {s t d d' : Int} (h : IsFar xs s t d) (h' : IsFar xs s t d') : d = d' := by
  have h1 := h.2 _ h'.1
  have h2 := h'.2 _ h.1
  omega
theorem far_exists {n : Int} {xs : List T3} (hok : RoadOk n xs) {s : Int} (hs : 0 ≤ s ∧ s < n) : ∀ (k : Nat) (t d : Int), Way xs s t d → d ≤ k → ∃ d0, IsFar xs s t d0
  | 0, t, d, h, hk => by
    have := way_bd hok hs h
    exact ⟨d, h, fun d' h' => by have := way_bd hok hs h'; omega⟩
  | k + 1, t, d, h, hk => by
    by_cases hm : ∃ d', Way xs s t d' ∧ d' ≤ k
    · obtain ⟨d', h1, h2⟩ := hm
      exact far_exists hok hs k t d' h1 h2
    · refine ⟨d, h, fun d' h' => ?_⟩
      rcases Int.lt_or_le (k : Int) d' with h1 | h1
      · omega
      · exact absurd ⟨d', h', h1⟩ hm
/-- The last road of a shortest way. -/
theorem far_last {n : Int} {xs : List T3} (hok : RoadOk n xs) {s v d : Int} (h : IsFar xs s v d) : (v = s ∧ d = 0) ∨ ∃ u d1 w, IsFar xs s u d1 ∧ Edge xs u v w ∧ d = d1 + w := by
  obtain ⟨h1, h2⟩ := h
  cases h1 with
  | start => exact .inl ⟨rfl, rfl⟩
  | @on u _ d1 w h3 h4 => exact .inr ⟨u, d1, w, ⟨h3, fun d' h' => by have := h2 _ (Way.on h' h4); omega⟩, h4, rfl⟩

/-! ### How many towns are nearer -/
open Classical in
noncomputable def rank (xs : List T3) (s : Int) (n : Nat) (d : Int) : Nat := (List.range n).countP fun (u : Nat) => decide (∃ d', IsFar xs s u d' ∧ d' < d)
theorem countP_lt {α : Type} (p q : α → Bool) : ∀ (l : List α), (∀ x ∈ l, p x = true → q x = true) → (∃ x ∈ l, q x = true ∧ p x = false) → l.countP p < l.countP q
  | [], _, h => by obtain ⟨x, hx, _⟩ := h; cases hx
  | a :: l, h1, h2 => by
    have hm : l.countP p ≤ l.countP q := List.countP_mono_left fun x hx => h1 x (List.mem_cons_of_mem _ hx)
    obtain ⟨x, hx, hq, hp⟩ := h2
    rw [List.countP_cons, List.countP_cons]
    rcases List.mem_cons.1 hx with rfl | hx
    · rw [hq, hp]; simp; omega
    · have ih := countP_lt p q l (fun y hy => h1 y (List.mem_cons_of_mem _ hy)) ⟨x, hx, hq, hp⟩
      have := h1 a (List.mem_cons_self ..)
      cases hpa : p a with
      | false => simp; split <;> omega
      | true => rw [this hpa]; simp; omega
theorem rank_lt {n : Nat} {xs : List T3} (hok : RoadOk n xs) {s u d1 d : Int} (hs : 0 ≤ s ∧ s < n) (h : IsFar xs s u d1) (hd : d1 < d) : rank xs s n d1 < rank xs s n d := by
  have hu := way_bd hok hs h.1
  refine countP_lt _ _ _ (fun x _ hx => ?_) ⟨u.toNat, List.mem_range.2 (by omega), ?_, ?_⟩
  · simp only [decide_eq_true_eq] at hx ⊢
    obtain ⟨d', h1, h2⟩ := hx
    exact ⟨d', h1, by omega⟩
  · simp only [decide_eq_true_eq]
    exact ⟨d1, by rw [Int.toNat_of_nonneg hu.1]; exact h, hd⟩
  · simp only [decide_eq_false_iff_not]
    rintro ⟨d', h1, h2⟩
    rw [Int.toNat_of_nonneg hu.1] at h1
    have := far_unique h h1
    omega
theorem rank_le {n : Nat} {xs : List T3} (hok : RoadOk n xs) {s v d : Int} (hs : 0 ≤ s ∧ s < n) (h : IsFar xs s v d) : rank xs s n d < n := by
  have hv := way_bd hok hs h.1
  have h1 := countP_lt (fun (u : Nat) => @decide (∃ d', IsFar xs s u d' ∧ d' < d) (Classical.propDecidable _)) (fun _ => true) (List.range n) (fun _ _ _ => rfl) ⟨v.toNat, List.mem_range.2 (by omega), rfl, by
    simp only [decide_eq_false_iff_not]
    rintro ⟨d', h1, h2⟩
    rw [Int.toNat_of_nonneg hv.1] at h1
    have := far_unique h h1
    omega⟩
  have h2 : (List.range n).countP (fun _ => true) = n := by simp
  unfold rank
  omega
/-- No distance is great. -/
theorem far_small {n : Nat} {xs : List T3} (hok : RoadOk n xs) {s : Int} (hs : 0 ≤ s ∧ s < n) : ∀ (r : Nat) (v d : Int), IsFar xs s v d → rank xs s n d ≤ r → d ≤ 99 * r
  | r, v, d, h, hr => by
    rcases far_last hok h with ⟨rfl, rfl⟩ | ⟨u, d1, w, h1, h2, rfl⟩
    · omega
    · have hw := edge_bd hok h2
      have hl := rank_lt hok hs h1 (d := d1 + w) (by omega)
      cases r with
      | zero => omega
      | succ r =>
        have ih := far_small hok hs r u d1 h1 (by omega)
        omega

/-! ### Rounds over all roads -/
def relax1 (f : Int → Int) (p : T3) : Int → Int := fun t =>
  if t = p.b then min (if p.b = p.a then min (f p.a) (f p.b + p.c) else f p.b) ((min (f p.a) (f p.b + p.c)) + p.c) else if t = p.a then min (f p.a) (f p.b + p.c) else f t
def fStart (s : Int) : Int → Int := fun t => if t = s then 0 else 100000
def rounds (xs : List T3) (s : Int) : Nat → Int → Int
  | 0 => fStart s
  | r + 1 => xs.foldl relax1 (rounds xs s r)
theorem relax_le (f : Int → Int) (p : T3) (t : Int) : relax1 f p t ≤ f t := by
  unfold relax1
  split
  · rename_i h
    subst h
    split
    · rename_i h; rw [← h]; omega
    · omega
  · split
    · rename_i h; subst h; omega
    · omega
theorem relax_ab (f : Int → Int) (p : T3) (h : p.a < p.b) (hc : 0 ≤ p.c) : relax1 f p p.b ≤ f p.a + p.c ∧ relax1 f p p.a ≤ f p.b + p.c := by
  unfold relax1
  rw [if_pos rfl, if_neg (by omega), if_neg (by omega), if_pos rfl]
  omega
theorem fold_le : ∀ (xs : List T3) (f : Int → Int) (t : Int), xs.foldl relax1 f t ≤ f t
  | [], f, t => Int.le_refl _
  | p :: xs, f, t => Int.le_trans (fold_le xs (relax1 f p) t) (relax_le f p t)
theorem fold_edge : ∀ (xs : List T3) (f : Int → Int), (∀ p ∈ xs, p.a < p.b ∧ 0 ≤ p.c) → ∀ p ∈ xs, xs.foldl relax1 f p.b ≤ f p.a + p.c ∧ xs.foldl relax1 f p.a ≤ f p.b + p.c
  | [], f, _, p, hp => by cases hp
  | q :: xs, f, h, p, hp => by
    rcases List.mem_cons.1 hp with rfl | hp
    · have h1 := relax_ab f p (h p (List.mem_cons_self ..)).1 (h p (List.mem_cons_self ..)).2
      have h2 := fold_le xs (relax1 f p)
      have h3 := h2 p.b
      have h4 := h2 p.a
      simp only [List.foldl_cons]
      omega
    · have ih := fold_edge xs (relax1 f q) (fun r hr => h r (List.mem_cons_of_mem _ hr)) p hp
      have h3 := relax_le f q p.a
      have h4 := relax_le f q p.b
      simp only [List.foldl_cons]
      omega
/-- What a table holds is the length of a way, or 100000. -/
def Snd (xs : List T3) (s : Int) (f : Int → Int) : Prop := ∀ t, f t ≤ 100000 ∧ (f t = 100000 ∨ Way xs s t (f t)) ∧ 0 ≤ f t
theorem snd_relax {xs : List T3} {s : Int} {f : Int → Int} (h : Snd xs s f) {p : T3} (hp : p ∈ xs) (hc : 1 ≤ p.c) (hab : p.a < p.b) : Snd xs s (relax1 f p) := by
  have one : ∀ (g : Int → Int) (u v : Int), Snd xs s g → Edge xs u v p.c → min (g v) (g u + p.c) ≤ 100000 ∧ (min (g v) (g u + p.c) = 100000 ∨ Way xs s v (min (g v) (g u + p.c))) ∧ 0 ≤ min (g v) (g u + p.c) := fun g u v hg he => by
    obtain ⟨a1, a2, a3⟩ := hg v
    obtain ⟨b1, b2, b3⟩ := hg u
    refine ⟨by omega, ?_, by omega⟩
    rcases Int.le_total (g v) (g u + p.c) with h1 | h1
    · rw [Int.min_eq_left h1]; exact a2
    · rw [Int.min_eq_right h1]
      rcases b2 with b2 | b2
      · left; omega
      · exact .inr (Way.on b2 he)
  have e1 : Edge xs p.b p.a p.c := ⟨p, hp, .inr ⟨rfl, rfl⟩, rfl⟩
  have e2 : Edge xs p.a p.b p.c := ⟨p, hp, .inl ⟨rfl, rfl⟩, rfl⟩
  have h1 : Snd xs s (fun t => if t = p.a then min (f p.a) (f p.b + p.c) else f t) := fun t => by
    dsimp only
    split
    · rename_i e; subst e; exact one f p.b p.a h e1
    · exact h t
  intro t
  unfold relax1
  split
  · rename_i e
    subst e
    have := one _ p.a p.b h1 e2
    rw [if_pos rfl] at this
    exact this
  · exact h1 t
theorem snd_fold {xs : List T3} {s : Int} : ∀ (ys : List T3) (f : Int → Int), Snd xs s f → (∀ p ∈ ys, p ∈ xs ∧ 1 ≤ p.c ∧ p.a < p.b) → Snd xs s (ys.foldl relax1 f)
  | [], f, h, _ => h
  | p :: ys, f, h, hy => snd_fold ys _ (snd_relax h (hy p (List.mem_cons_self ..)).1 (hy p (List.mem_cons_self ..)).2.1 (hy p (List.mem_cons_self ..)).2.2) fun q hq => hy q (List.mem_cons_of_mem _ hq)
theorem snd_start (xs : List T3) (s : Int) : Snd xs s (fStart s) := fun t => by
  unfold fStart
  split
  · rename_i e; subst e; exact ⟨by omega, .inr Way.start, by omega⟩
  · exact ⟨by omega, .inl rfl, by omega⟩
theorem snd_rounds {n : Int} {xs : List T3} (hok : RoadOk n xs) (s : Int) : ∀ r, Snd xs s (rounds xs s r)
  | 0 => snd_start xs s
  | r + 1 => snd_fold xs _ (snd_rounds hok s r) fun p hp => ⟨hp, (hok.2.2.2.1 p hp).2.2.2.1, (hok.2.2.2.1 p hp).2.1⟩
theorem rounds_start {xs : List T3} (s : Int) : ∀ r, rounds xs s r s ≤ 0
  | 0 => by simp [rounds, fStart]
  | r + 1 => Int.le_trans (fold_le xs _ s) (rounds_start s r)
theorem rounds_far {n : Nat} {xs : List T3} (hok : RoadOk n xs) {s : Int} (hs : 0 ≤ s ∧ s < n) : ∀ (r : Nat) (v d : Int), IsFar xs s v d → rank xs s n d ≤ r → rounds xs s r v ≤ d
  | r, v, d, h, hr => by
    have hd := way_bd hok hs h.1
    rcases far_last hok h with ⟨rfl, rfl⟩ | ⟨u, d1, w, h1, h2, rfl⟩
    · exact rounds_start v r
    · have hw := edge_bd hok h2
      have hl := rank_lt hok hs h1 (d := d1 + w) (by omega)
      cases r with
      | zero => omega
      | succ r =>
        have ih := rounds_far hok hs r u d1 h1 (by omega)
        obtain ⟨p, hp, h3, rfl⟩ := h2
        have h4 := fold_edge xs (rounds xs s r) (fun p hp => by have := hok.2.2.2.1 p hp; omega) p hp
        rw [rounds]
        rcases h3 with ⟨rfl, rfl⟩ | ⟨rfl, rfl⟩ <;> omega
/-- After n rounds the table holds the distances, 100000 for no way. -/
theorem rounds_all {n : Nat} {xs : List T3} (hok : RoadOk n xs) {s : Int} (hs : 0 ≤ s ∧ s < n) (t : Int) : (∀ d, IsFar xs s t d → rounds xs s n t = d ∧ d < 100000) ∧ ((∀ d, ¬ Way xs s t d) → rounds xs s n t = 100000) := by
  have h0 := snd_rounds hok s n t
  refine ⟨fun d hd => ?_, fun hn => ?_⟩
  · have h1 := rank_le hok hs hd
    have h2 := rounds_far hok hs n t d hd (by omega)
    have h3 := far_small hok hs n t d hd (by omega)
    have hn8 := hok.2.1
    rcases h0.2.1 with h4 | h4
    · omega
    · have := hd.2 _ h4
      omega
  · rcases h0.2.1 with h4 | h4
    · exact h4
    · exact absurd h4 (hn _)
end Go.Proofs.YtgjllminidlolaaGreatDoor
/- Plain mathematics of roads: settling the nearest town again and again finds the distances. -/
set_option linter.unusedVariables false
namespace Go.Proofs.YtgjllminidlolaaGreatDoor

/-- A town that can be reached over some miles. -/
structure P2 where
  t : Int
  d : Int
deriving DecidableEq, Inhabited
def updF (far : Int → Option Int) (t d : Int) : Int → Option Int := fun u => if u = t then some d else far u
theorem updF_self (far : Int → Option Int) (t d : Int) : updF far t d t = some d := by unfold updF; rw [if_pos rfl]
theorem updF_ne {far : Int → Option Int} {t d u : Int} (h : u ≠ t) : updF far t d u = far u := by unfold updF; rw [if_neg h]
/-- The towns that are settled, and those that wait; of the roads of tt only those to V are done. -/
structure DInv (xs : List T3) (s : Int) (far : Int → Option Int) (H : List P2) (tt : Int) (V : Int → Prop) : Prop where
  a1 : ∀ t d, far t = some d → Way xs s t d
  b1 : ∀ x ∈ H, Way xs s x.t x.d
  c1 : ∀ t d, far t = some d → ∀ x ∈ H, d ≤ x.d
  e1 : ∀ u du v w, far u = some du → Edge xs u v w → (u = tt → V v) → (∃ dv, far v = some dv ∧ dv ≤ du + w) ∨ (far v = none ∧ ∃ x ∈ H, x.t = v ∧ x.d ≤ du + w)
  s1 : far s = some 0 ∨ ((∀ t, far t = none) ∧ ∃ x ∈ H, x.t = s ∧ x.d = 0)
theorem d_start (xs : List T3) (s tt : Int) (V : Int → Prop) : DInv xs s (fun _ => none) [⟨s, 0⟩] tt V :=
  ⟨fun t d h => by simp at h, fun x hx => by rw [List.mem_singleton.1 hx]; exact Way.start, fun t d h => by simp at h, fun u du v w h => by simp at h, .inr ⟨fun _ => rfl, ⟨s, 0⟩, by simp, rfl, rfl⟩⟩
/-- What waits is taken out. -/
def Popped (H H' : List P2) (x : P2) : Prop := x ∈ H ∧ (∀ y ∈ H', y ∈ H) ∧ (∀ y ∈ H, y = x ∨ y ∈ H') ∧ (∀ y ∈ H, x.d ≤ y.d) ∧ H'.length + 1 = H.length
theorem d_drop {xs : List T3} {s : Int} {far : Int → Option Int} {H H' : List P2} {x : P2} {tt : Int} {V : Int → Prop} {d0 : Int} (h : DInv xs s far H tt V) (hp : Popped H H' x) (hx : far x.t = some d0) : DInv xs s far H' tt V := by
  obtain ⟨p1, p2, p3, p4, _⟩ := hp
  refine ⟨h.a1, fun y hy => h.b1 y (p2 y hy), fun t d ht y hy => h.c1 t d ht y (p2 y hy), fun u du v w hu he hv => ?_, ?_⟩
  · rcases h.e1 u du v w hu he hv with h1 | ⟨h1, y, hy, h2, h3⟩
    · exact .inl h1
    · rcases p3 y hy with rfl | hy'
      · rw [h2, h1] at hx; cases hx
      · exact .inr ⟨h1, y, hy', h2, h3⟩
  · rcases h.s1 with h1 | ⟨h1, _⟩
    · exact .inl h1
    · rw [h1] at hx; cases hx
/-- The nearest of those that wait is settled. -/
theorem d_settle {n : Int} {xs : List T3} (hok : RoadOk n xs) {s : Int} (hs : 0 ≤ s ∧ s < n) {far : Int → Option Int} {H H' : List P2} {x : P2} {tt : Int} (h : DInv xs s far H tt (fun _ => True)) (hp : Popped H H' x) (hx : far x.t = none) :
    DInv xs s (updF far x.t x.d) H' x.t (fun _ => False) ∧ ∀ v dv, updF far x.t x.d v = some dv → dv ≤ x.d := by
  obtain ⟨p1, p2, p3, p4, _⟩ := hp
  have hle : ∀ v dv, updF far x.t x.d v = some dv → dv ≤ x.d := fun v dv hv => by
    by_cases e : v = x.t
    · subst e; rw [updF_self] at hv; injection hv with hv; omega
    · rw [updF_ne e] at hv; exact h.c1 v dv hv x p1
  refine ⟨⟨fun t d ht => ?_, fun y hy => h.b1 y (p2 y hy), fun t d ht y hy => ?_, fun u du v w hu he hv => ?_, ?_⟩, hle⟩
  · by_cases e : t = x.t
    · subst e; rw [updF_self] at ht; injection ht with ht; subst ht; exact h.b1 x p1
    · rw [updF_ne e] at ht; exact h.a1 t d ht
  · have h1 := hle t d ht
    have h2 := p4 y (p2 y hy)
    omega
  · by_cases e : u = x.t
    · exact absurd (hv e) id
    · rw [updF_ne e] at hu
      rcases h.e1 u du v w hu he (fun _ => trivial) with ⟨dv, h1, h2⟩ | ⟨h1, y, hy, h2, h3⟩
      · refine .inl ⟨dv, ?_, h2⟩
        rw [updF_ne (fun e2 => by rw [e2, hx] at h1; cases h1)]
        exact h1
      · by_cases e2 : v = x.t
        · refine .inl ⟨x.d, by rw [e2, updF_self], ?_⟩
          have := p4 y hy
          omega
        · refine .inr ⟨by rw [updF_ne e2]; exact h1, ?_⟩
          rcases p3 y hy with rfl | hy'
          · exact absurd h2.symm e2
          · exact ⟨y, hy', h2, h3⟩
  · by_cases e : s = x.t
    · left
      have hd : x.d = 0 := by
        rcases h.s1 with h1 | ⟨_, y, hy, h2, h3⟩
        · rw [e, hx] at h1; cases h1
        · have h4 := p4 y hy
          have h5 := way_bd hok hs (h.b1 x p1)
          omega
      rw [e, updF_self, hd]
    · rcases h.s1 with h1 | ⟨h0, y, hy, h2, h3⟩
      · left; rw [updF_ne e]; exact h1
      · exfalso
        have h4 := p4 y hy
        have h5 := way_bd hok hs (h.b1 x p1)
        exact e (h5.2.2.2 (by omega)).symm
/-- A road of the settled town to one that is settled. -/
theorem d_skip {xs : List T3} {s : Int} {far : Int → Option Int} {H : List P2} {t d v dv : Int} {V : Int → Prop} (h : DInv xs s far H t V) (ht : far t = some d) (hle : ∀ v dv, far v = some dv → dv ≤ d) (hv : far v = some dv) (hw : ∀ u w, Edge xs t u w → 0 ≤ w) :
    DInv xs s far H t (fun u => V u ∨ u = v) := by
  refine ⟨h.a1, h.b1, h.c1, fun u du v' w hu he hV => ?_, h.s1⟩
  by_cases e : u = t
  · rcases hV e with h1 | rfl
    · exact h.e1 u du v' w hu he (fun _ => h1)
    · refine .inl ⟨dv, hv, ?_⟩
      subst e
      rw [ht] at hu
      injection hu with hu
      have h1 := hle _ _ hv
      have h2 := hw _ _ he
      omega
  · exact h.e1 u du v' w hu he (fun h => absurd h e)
/-- A road of the settled town to one that waits now. -/
theorem d_push {n : Int} {xs : List T3} (hok : RoadOk n xs) {s : Int} {far : Int → Option Int} {H H' : List P2} {t d v w : Int} {V : Int → Prop} (h : DInv xs s far H t V) (ht : far t = some d) (hle : ∀ v dv, far v = some dv → dv ≤ d) (hv : far v = none) (hw : Edge xs t v w)
    (hu : ∀ w', Edge xs t v w' → w' = w) (hm : ∀ y, y ∈ H' ↔ y = ⟨v, d + w⟩ ∨ y ∈ H) : DInv xs s far H' t (fun u => V u ∨ u = v) := by
  have hw0 := edge_bd hok hw
  refine ⟨h.a1, fun y hy => ?_, fun t' d' ht' y hy => ?_, fun u du v' w' hu' he hV => ?_, ?_⟩
  · rcases (hm y).1 hy with rfl | hy
    · exact Way.on (h.a1 t d ht) hw
    · exact h.b1 y hy
  · rcases (hm y).1 hy with rfl | hy
    · have := hle _ _ ht'
      dsimp only
      omega
    · exact h.c1 t' d' ht' y hy
  · have more : (∃ dv, far v' = some dv ∧ dv ≤ du + w') ∨ (far v' = none ∧ ∃ x ∈ H, x.t = v' ∧ x.d ≤ du + w') → (∃ dv, far v' = some dv ∧ dv ≤ du + w') ∨ (far v' = none ∧ ∃ x ∈ H', x.t = v' ∧ x.d ≤ du + w') := fun h1 => by
      rcases h1 with h1 | ⟨h1, y, hy, h2⟩
      · exact .inl h1
      · exact .inr ⟨h1, y, (hm y).2 (.inr hy), h2⟩
    by_cases e : u = t
    · rcases hV e with h1 | rfl
      · exact more (h.e1 u du v' w' hu' he (fun _ => h1))
      · subst e
        have := hu w' he
        subst this
        rw [ht] at hu'
        injection hu' with hu'
        exact .inr ⟨hv, ⟨v', d + w'⟩, (hm _).2 (.inl rfl), rfl, by dsimp only; omega⟩
    · exact more (h.e1 u du v' w' hu' he (fun h => absurd h e))
  · rcases h.s1 with h1 | ⟨h0, _⟩
    · exact .inl h1
    · rw [h0] at ht; cases ht
/-- All roads of the settled town are done. -/
theorem d_done {xs : List T3} {s : Int} {far : Int → Option Int} {H : List P2} {t : Int} {V : Int → Prop} (h : DInv xs s far H t V) (hV : ∀ v w, Edge xs t v w → V v) (tt : Int) : DInv xs s far H tt (fun _ => True) :=
  ⟨h.a1, h.b1, h.c1, fun u du v w hu he _ => h.e1 u du v w hu he (fun e => hV v w (e ▸ he)), h.s1⟩
/-- Where nothing waits the distances are found. -/
theorem d_end {xs : List T3} {s : Int} {far : Int → Option Int} {tt : Int} (h : DInv xs s far [] tt (fun _ => True)) (t d : Int) : (far t = some d ↔ IsFar xs s t d) ∧ (far t = none ↔ ∀ d', ¬ Way xs s t d') := by
  have h0 : far s = some 0 := by
    rcases h.s1 with h1 | ⟨_, y, hy, _⟩
    · exact h1
    · cases hy
  have hc : ∀ {t d : Int}, Way xs s t d → (far t).isSome = true ∧ (far t).getD 0 ≤ d := fun hw =>
    far_of_fix (fun t => (far t).isSome = true) (fun t => (far t).getD 0) ⟨by rw [h0]; rfl, by rw [h0]; rfl⟩ (fun u v w hu he => by
      obtain ⟨du, hdu⟩ := Option.isSome_iff_exists.1 hu
      rcases h.e1 u du v w hdu he (fun _ => trivial) with ⟨dv, h1, h2⟩ | ⟨_, y, hy, _⟩
      · rw [h1, hdu]; exact ⟨rfl, h2⟩
      · cases hy) hw
  have hf : ∀ d, far t = some d → IsFar xs s t d := fun d hd => ⟨h.a1 t d hd, fun d' hw => by
    have := (hc hw).2
    rw [hd] at this
    exact this⟩
  refine ⟨⟨hf d, fun hd => ?_⟩, ⟨fun hn d' hw => ?_, fun hn => ?_⟩⟩
  · have h1 := hc hd.1
    obtain ⟨d', hd'⟩ := Option.isSome_iff_exists.1 h1.1
    rw [hd', far_unique hd (hf d' hd')]
  · have h1 := (hc hw).1
    rw [hn] at h1
    cases h1
  · cases hft : far t with
    | none => rfl
    | some d' => exact absurd (h.a1 t d' hft) (hn d')
end Go.Proofs.YtgjllminidlolaaGreatDoor
/- Plain mathematics of roads: the way that is told. -/
set_option linter.unusedVariables false
namespace Go.Proofs.YtgjllminidlolaaGreatDoor

/-- A shortest way goes on from a town to another one. -/
def NextP (xs : List T3) (b a v : Int) : Prop := ∃ w dv, Edge xs a v w ∧ IsFar xs b v dv ∧ IsFar xs b a (dv + w)
def FirstNext (xs : List T3) (b a v : Int) : Prop := NextP xs b a v ∧ ∀ v', NextP xs b a v' → v ≤ v'
/-- The towns of a way. -/
inductive WayP (xs : List T3) (b : Int) : Int → List Int → Prop
  | here : WayP xs b b [b]
  | on {a v : Int} {l : List Int} : a ≠ b → FirstNext xs b a v → WayP xs b v l → WayP xs b a (a :: l)
theorem first_unique {xs : List T3} {b a v v' : Int} (h : FirstNext xs b a v) (h' : FirstNext xs b a v') : v = v' := by
  have h1 := h.2 _ h'.1
  have h2 := h'.2 _ h.1
  omega
theorem wayP_unique {xs : List T3} {b a : Int} {l : List Int} (h : WayP xs b a l) : ∀ {l' : List Int}, WayP xs b a l' → l = l' := by
  induction h with
  | here =>
    intro l' h'
    cases h' with
    | here => rfl
    | on h1 => exact absurd rfl h1
  | on h1 h2 h3 ih =>
    intro l' h'
    cases h' with
    | here => exact absurd rfl h1
    | on g1 g2 g3 =>
      obtain rfl := first_unique h2 g2
      rw [ih g3]
section
variable {n : Int} {xs : List T3} {b : Int}
theorem next_exists (hok : RoadOk n xs) (hb : 0 ≤ b ∧ b < n) {a d : Int} (h : IsFar xs b a d) (hn : a ≠ b) : ∃ v, NextP xs b a v := by
  rcases far_last hok h with ⟨h1, _⟩ | ⟨u, d1, w, h1, h2, rfl⟩
  · exact absurd h1 hn
  · exact ⟨u, w, d1, edge_symm h2, h1, h⟩
theorem next_facts (hok : RoadOk n xs) (hb : 0 ≤ b ∧ b < n) {a v d : Int} (h : NextP xs b a v) (hd : IsFar xs b a d) : 0 ≤ v ∧ v < n ∧ ∃ dv, IsFar xs b v dv ∧ 0 ≤ dv ∧ dv < d ∧ v ≠ a := by
  obtain ⟨w, dv, h1, h2, h3⟩ := h
  have he := edge_bd hok h1
  have hv := way_bd hok hb h2.1
  have := far_unique hd h3
  exact ⟨he.2.2.1, he.2.2.2.1, dv, h2, hv.2.2.1, by omega, fun e => he.2.2.2.2.2.2 e.symm⟩
theorem firstNext_exists (hok : RoadOk n xs) (hb : 0 ≤ b ∧ b < n) {a d : Int} (h : IsFar xs b a d) (hn : a ≠ b) : ∃ v, FirstNext xs b a v := by
  obtain ⟨v, hv⟩ := next_exists hok hb h hn
  have key : ∀ (m : Nat) (v : Int), NextP xs b a v → v ≤ m → ∃ v0, FirstNext xs b a v0 := by
    intro m
    induction m with
    | zero =>
      intro v hv hm
      have := next_facts hok hb hv h
      exact ⟨v, hv, fun v' h' => by have := next_facts hok hb h' h; omega⟩
    | succ m ih =>
      intro v hv hm
      by_cases hx : ∃ v', NextP xs b a v' ∧ v' ≤ m
      · obtain ⟨v', h1, h2⟩ := hx
        exact ih v' h1 h2
      · refine ⟨v, hv, fun v' h' => ?_⟩
        rcases Int.lt_or_le v' v with h1 | h1
        · exact absurd ⟨v', h', by omega⟩ hx
        · exact h1
  have := next_facts hok hb hv h
  exact key v.toNat v hv (by omega)
theorem wayP_exists (hok : RoadOk n xs) (hb : 0 ≤ b ∧ b < n) : ∀ (m : Nat) (a d : Int), IsFar xs b a d → d ≤ m → ∃ l, WayP xs b a l ∧ (l.length : Int) ≤ d + 1 := by
  intro m
  induction m using Nat.strongRecOn with
  | _ m ih =>
    intro a d h hm
    have hd := way_bd hok hb h.1
    by_cases e : a = b
    · subst e
      exact ⟨[a], WayP.here, by simp; omega⟩
    · obtain ⟨v, hv⟩ := firstNext_exists hok hb h e
      obtain ⟨_, _, dv, h1, h2, h3, _⟩ := next_facts hok hb hv.1 h
      obtain ⟨l, h4, h5⟩ := ih dv.toNat (by omega) v dv h1 (by omega)
      exact ⟨a :: l, WayP.on e hv h4, by rw [List.length_cons]; omega⟩
/-- One edge joins two towns, or none. -/
theorem edge_unique (hok : RoadOk n xs) {u v w w' : Int} (h : Edge xs u v w) (h' : Edge xs u v w') : w = w' := by
  obtain ⟨p, hp, h1, h2⟩ := h
  obtain ⟨q, hq, g1, g2⟩ := h'
  obtain ⟨i, hi⟩ := List.getElem?_of_mem hp
  obtain ⟨j, hj⟩ := List.getElem?_of_mem hq
  have hpb := hok.2.2.2.1 p hp
  have hqb := hok.2.2.2.1 q hq
  have he : p.a = q.a ∧ p.b = q.b := by
    rcases h1 with ⟨rfl, rfl⟩ | ⟨rfl, rfl⟩ <;> rcases g1 with ⟨g3, g4⟩ | ⟨g3, g4⟩ <;> omega
  rcases Nat.lt_trichotomy i j with e | e | e
  · exact absurd he (hok.2.2.2.2 i j p q e hi hj)
  · subst e
    rw [hi] at hj
    obtain rfl := Option.some.inj hj
    omega
  · exact absurd ⟨he.1.symm, he.2.symm⟩ (hok.2.2.2.2 j i q p e hj hi)
theorem way_symm {s t d : Int} (h : Way xs s t d) : Way xs t s d := by
  have key : ∀ {u t d : Int}, Way xs s t d → ∀ {d'}, Way xs u t d' → Way xs u s (d + d') := by
    intro u t d h
    induction h with
    | start => intro d' h'; rw [Int.zero_add]; exact h'
    | @on u1 v1 d1 w1 h1 h2 ih =>
      intro d' h'
      have h3 := ih (Way.on h' (edge_symm h2))
      rw [show d1 + w1 + d' = d1 + (d' + w1) from by omega]
      exact h3
  have h1 := key h (Way.start (xs := xs) (s := t))
  rw [Int.add_zero] at h1
  exact h1
theorem far_symm {s t d : Int} (h : IsFar xs s t d) : IsFar xs t s d := ⟨way_symm h.1, fun d' h' => h.2 d' (way_symm h')⟩
end
end Go.Proofs.YtgjllminidlolaaGreatDoor
/- Plain mathematics of roads: how they are checked, found, and what a town's map holds. -/
set_option linter.unusedVariables false
namespace Go.Proofs.YtgjllminidlolaaGreatDoor

def OkR (n : Int) (p : T3) : Prop := 0 ≤ p.a ∧ p.a < p.b ∧ p.b < n ∧ 1 ≤ p.c ∧ p.c ≤ 99
/-- The first roads are roads. -/
def RoadPre (n : Int) (xs : List T3) : Prop := (∀ p ∈ xs, OkR n p) ∧ ∀ (i j : Nat) p q, i < j → xs[i]? = some p → xs[j]? = some q → ¬ (p.a = q.a ∧ p.b = q.b)
theorem road_iff (n : Int) (xs : List T3) : RoadOk n xs ↔ 1 ≤ n ∧ n ≤ 8 ∧ xs.length ≤ 16 ∧ RoadPre n xs := Iff.rfl
theorem pre_nil (n : Int) (xs : List T3) : RoadPre n (xs.take 0) := ⟨fun p hp => by simp at hp, fun i j p q _ h => by simp at h⟩
/-- No earlier one of the first m joins the same towns. -/
def NoTwin (xs : List T3) (m : Nat) (a b : Int) : Prop := ∀ (i : Nat) q, i < m → xs[i]? = some q → ¬ (q.a = a ∧ q.b = b)
theorem twin_nil (xs : List T3) (a b : Int) : NoTwin xs 0 a b := fun i q h => absurd h (by omega)
theorem twin_next {xs : List T3} {m : Nat} {a b : Int} {q : T3} (h : NoTwin xs m a b) (hq : xs[m]? = some q) (hn : ¬ (q.a = a ∧ q.b = b)) : NoTwin xs (m + 1) a b := fun i p hi hp => by
  by_cases e : i = m
  · subst e
    rw [hq] at hp
    cases hp
    exact hn
  · exact h i p (by omega) hp
theorem pre_next {n : Int} {xs : List T3} {j : Nat} {p : T3} (h : RoadPre n (xs.take j)) (hp : xs[j]? = some p) (ho : OkR n p) (ht : NoTwin xs j p.a p.b) : RoadPre n (xs.take (j + 1)) := by
  obtain ⟨h1, h2⟩ := h
  rw [take_next hp]
  have hjl := (List.getElem?_eq_some_iff.1 hp).1
  have hl : (xs.take j).length = j := by rw [List.length_take]; omega
  refine ⟨fun q hq => ?_, fun i k q r hik hq hr => ?_⟩
  · rcases List.mem_append.1 hq with hq | hq
    · exact h1 q hq
    · rw [List.mem_singleton] at hq
      subst hq
      exact ho
  · have hk : k < j + 1 := by
      have := (List.getElem?_eq_some_iff.1 hr).1
      rw [List.length_append, hl] at this
      exact this
    rw [List.getElem?_append_left (by omega)] at hq
    by_cases e : k = j
    · subst e
      rw [List.getElem?_append_right (by omega), hl, Nat.sub_self] at hr
      obtain rfl : p = r := by simpa using hr
      have : xs[i]? = some q := by
        rw [List.getElem?_take] at hq
        rw [if_pos (by omega)] at hq
        exact hq
      exact ht i q hik this
    · rw [List.getElem?_append_left (by omega)] at hr
      exact h2 i k q r hik hq hr
theorem road_bad {n : Int} {xs : List T3} {j : Nat} {p : T3} (hp : xs[j]? = some p) (h : ¬ OkR n p) : ¬ RoadOk n xs := fun hr => h (hr.2.2.2.1 p (List.mem_of_getElem? hp))
theorem road_dup {n : Int} {xs : List T3} {i j : Nat} {p q : T3} (hij : i < j) (hq : xs[i]? = some q) (hp : xs[j]? = some p) (h : q.a = p.a ∧ q.b = p.b) : ¬ RoadOk n xs := fun hr => hr.2.2.2.2 i j q p hij hq hp h
theorem pre_take {n : Int} {xs : List T3} (h : RoadPre n xs) (j : Nat) : RoadPre n (xs.take j) := by
  refine ⟨fun p hp => h.1 p (List.mem_of_mem_take hp), fun i k p q hik hp hq => ?_⟩
  rw [List.getElem?_take] at hp hq
  split at hp
  · split at hq
    · exact h.2 i k p q hik hp hq
    · cases hq
  · cases hp
theorem road_take {n : Int} {xs : List T3} (h : RoadOk n xs) (j : Nat) : RoadOk n (xs.take j) := ⟨h.1, h.2.1, by have := h.2.2.1; rw [List.length_take]; omega, pre_take h.2.2.2 j⟩
/-- The place of the road between two towns, or -1. -/
def fndK : List T3 → Int → Int → Int → Int
  | [], _, _, _ => -1
  | p :: xs, lo, hi, k => if p.a = lo ∧ p.b = hi then k else fndK xs lo hi (k + 1)
theorem fnd_gen : ∀ (xs : List T3) (lo hi : Int) (k : Nat), (fndK xs lo hi k = -1 ∧ ∀ p ∈ xs, ¬ (p.a = lo ∧ p.b = hi)) ∨ ∃ (j : Nat) (p : T3), fndK xs lo hi k = (k + j : Nat) ∧ xs[j]? = some p ∧ p.a = lo ∧ p.b = hi ∧ NoTwin xs j lo hi
  | [], _, _, _ => .inl ⟨rfl, fun _ h => by cases h⟩
  | p :: xs, lo, hi, k => by
    by_cases h : p.a = lo ∧ p.b = hi
    · exact .inr ⟨0, p, by rw [fndK, if_pos h]; rfl, rfl, h.1, h.2, twin_nil _ _ _⟩
    · rw [fndK, if_neg h]
      have e : (k : Int) + 1 = ((k + 1 : Nat) : Int) := by omega
      rw [e]
      rcases fnd_gen xs lo hi (k + 1) with ⟨h1, h2⟩ | ⟨j, q, h1, h2, h3, h4, h5⟩
      · refine .inl ⟨h1, fun q hq => ?_⟩
        rcases List.mem_cons.1 hq with rfl | hq
        · exact h
        · exact h2 q hq
      · refine .inr ⟨j + 1, q, by rw [h1]; congr 1; omega, h2, h3, h4, fun i r hi hr => ?_⟩
        cases i with
        | zero => obtain rfl : p = r := by simpa using hr
                  exact h
        | succ i => exact h5 i r (by omega) (by simpa using hr)
/-- The place of the road between two towns, or -1. -/
def fndR (xs : List T3) (a b : Int) : Int := fndK xs (min a b) (max a b) 0
theorem edge_minmax {n : Int} {xs : List T3} (hok : RoadOk n xs) {a b : Int} {p : T3} (hp : p ∈ xs) : ((p.a = min a b ∧ p.b = max a b) ↔ ((p.a = a ∧ p.b = b) ∨ (p.a = b ∧ p.b = a))) := by
  have := hok.2.2.2.1 p hp
  constructor
  · intro h
    omega
  · intro h
    omega
theorem fndR_spec {n : Int} {xs : List T3} (hok : RoadOk n xs) (a b : Int) : (fndR xs a b = -1 ∧ ∀ w, ¬ Edge xs a b w) ∨ ∃ (j : Nat) (p : T3), fndR xs a b = j ∧ xs[j]? = some p ∧ Edge xs a b p.c ∧ p.a = min a b ∧ p.b = max a b ∧ NoTwin xs j (min a b) (max a b) := by
  rcases fnd_gen xs (min a b) (max a b) 0 with ⟨h1, h2⟩ | ⟨j, p, h1, h2, h3, h4, h5⟩
  · refine .inl ⟨h1, fun w ⟨p, hp, he, _⟩ => h2 p hp ((edge_minmax hok hp).2 he)⟩
  · refine .inr ⟨j, p, by unfold fndR; rw [show (0 : Int) = ((0 : Nat) : Int) from rfl, h1, Nat.zero_add], h2, ⟨p, List.mem_of_getElem? h2, (edge_minmax hok (List.mem_of_getElem? h2)).1 ⟨h3, h4⟩, rfl⟩, h3, h4, h5⟩
/-- What a town's map holds. -/
def nbr (xs : List T3) (t : Int) : List (Int × Int) := xs.filterMap fun p => if p.a = t then some (p.b, p.c) else if p.b = t then some (p.a, p.c) else none
theorem nbr_snoc (xs : List T3) (p : T3) (t : Int) : nbr (xs ++ [p]) t = nbr xs t ++ (if p.a = t then [(p.b, p.c)] else if p.b = t then [(p.a, p.c)] else []) := by
  unfold nbr
  rw [List.filterMap_append]
  congr 1
  by_cases h1 : p.a = t
  · simp [h1]
  · by_cases h2 : p.b = t
    · simp [h1, h2]
    · simp [h1, h2]
theorem nbr_edge {xs : List T3} {t v w : Int} : (v, w) ∈ nbr xs t → Edge xs t v w := by
  intro h
  obtain ⟨p, hp, he⟩ := List.mem_filterMap.1 h
  split at he
  · rename_i h1
    simp only [Option.some.injEq, Prod.mk.injEq] at he
    exact ⟨p, hp, .inl ⟨h1, he.1⟩, he.2⟩
  · split at he
    · rename_i h2
      simp only [Option.some.injEq, Prod.mk.injEq] at he
      exact ⟨p, hp, .inr ⟨he.1, h2⟩, he.2⟩
    · cases he
theorem edge_nbr {n : Int} {xs : List T3} (hok : RoadPre n xs) {t v w : Int} (h : Edge xs t v w) : (v, w) ∈ nbr xs t := by
  obtain ⟨p, hp, he, rfl⟩ := h
  have := hok.1 p hp
  unfold OkR at this
  refine List.mem_filterMap.2 ⟨p, hp, ?_⟩
  rcases he with ⟨h1, h2⟩ | ⟨h1, h2⟩
  · rw [if_pos h1, h2]
  · rw [if_neg (by omega), if_pos h2, h1]
theorem nbr_len (xs : List T3) (t : Int) : (nbr xs t).length ≤ xs.length := List.length_filterMap_le _ _
/-- Whether the road to come has a twin is read off the map. -/
theorem nbr_twin {n : Int} {xs : List T3} {j : Nat} (h : RoadPre n (xs.take j)) {a b : Int} (hab : a < b) : b ∈ (nbr (xs.take j) a).map (·.1) ↔ ∃ i q, i < j ∧ xs[i]? = some q ∧ q.a = a ∧ q.b = b := by
  constructor
  · intro hm
    obtain ⟨⟨v, w⟩, hv, rfl⟩ := List.mem_map.1 hm
    obtain ⟨q, hq, he, _⟩ := nbr_edge hv
    have ho := h.1 q hq
    unfold OkR at ho
    obtain ⟨i, hi⟩ := List.getElem?_of_mem hq
    rw [List.getElem?_take] at hi
    split at hi
    · exact ⟨i, q, by assumption, hi, by dsimp only at *; omega, by dsimp only at *; omega⟩
    · cases hi
  · rintro ⟨i, q, hi, hq, rfl, rfl⟩
    have hm : q ∈ xs.take j := List.mem_of_getElem? (i := i) (by rw [List.getElem?_take, if_pos hi]; exact hq)
    exact List.mem_map.2 ⟨(q.b, q.c), edge_nbr h ⟨q, hm, .inl ⟨rfl, rfl⟩, rfl⟩, rfl⟩
/-- No town is twice in a town's map. -/
theorem nbr_keys {n : Int} : ∀ (j : Nat) {xs : List T3}, RoadPre n xs → ∀ t, ((nbr (xs.take j) t).map (·.1)).Nodup
  | 0, xs, _, t => by simp [nbr]
  | j + 1, xs, h, t => by
    have ih := nbr_keys j h t
    cases hp : xs[j]? with
    | none =>
      have : xs.length ≤ j := by
        rcases Nat.lt_or_ge j xs.length with hl | hl
        · rw [List.getElem?_eq_getElem hl] at hp; cases hp
        · exact hl
      rw [List.take_of_length_le (by omega)]
      rw [List.take_of_length_le (by omega)] at ih
      exact ih
    | some p =>
      rw [take_next hp, nbr_snoc]
      have ho := h.1 p (List.mem_of_getElem? hp)
      unfold OkR at ho
      have hpre := pre_take h j
      split
      · rename_i e
        rw [List.map_append, List.map_singleton]
        refine List.nodup_append.2 ⟨ih, by simp, fun x hx y hy => ?_⟩
        rw [List.mem_singleton] at hy
        subst hy
        rintro rfl
        obtain ⟨i, q, hi, hq, h1, h2⟩ := (nbr_twin hpre (by omega)).1 hx
        exact h.2 i j q p hi hq hp ⟨by omega, h2⟩
      · split
        · rename_i e1 e
          rw [List.map_append, List.map_singleton]
          refine List.nodup_append.2 ⟨ih, by simp, fun x hx y hy => ?_⟩
          rw [List.mem_singleton] at hy
          subst hy
          rintro rfl
          obtain ⟨⟨v, w⟩, hv, hve⟩ := List.mem_map.1 hx
          dsimp only at hve
          subst hve
          obtain ⟨q, hq, he, _⟩ := nbr_edge hv
          have hqo := hpre.1 q hq
          unfold OkR at hqo
          obtain ⟨i, hi⟩ := List.getElem?_of_mem hq
          rw [List.getElem?_take] at hi
          split at hi
          · exact h.2 i j q p (by assumption) hi hp (by omega)
          · cases hi
        · rw [List.append_nil]
          exact ih
end Go.Proofs.YtgjllminidlolaaGreatDoor
/- Plain mathematics of a heap: how towns go up and down. -/
set_option linter.unusedVariables false
namespace Go.Proofs.YtgjllminidlolaaGreatDoor

def swF (f : Nat → P2) (i j k : Nat) : P2 := if k = i then f j else if k = j then f i else f k
def bagF (n : Nat) (f : Nat → P2) (y : P2) : Prop := ∃ k, k < n ∧ f k = y
theorem swF_l (f : Nat → P2) (i j : Nat) : swF f i j i = f j := by unfold swF; rw [if_pos rfl]
theorem swF_r (f : Nat → P2) (i j : Nat) : swF f i j j = f i := by
  unfold swF
  split
  · rename_i h; rw [h]
  · rw [if_pos rfl]
theorem swF_o (f : Nat → P2) {i j k : Nat} (hi : k ≠ i) (hj : k ≠ j) : swF f i j k = f k := by unfold swF; rw [if_neg hi, if_neg hj]
theorem swF_swF (f : Nat → P2) (i j k : Nat) : swF (swF f i j) i j k = f k := by
  by_cases hi : k = i
  · subst hi; rw [swF_l, swF_r]
  · by_cases hj : k = j
    · subst hj; rw [swF_r, swF_l]
    · rw [swF_o _ hi hj, swF_o _ hi hj]
theorem bag_swap1 {n : Nat} {f : Nat → P2} {i j : Nat} (hi : i < n) (hj : j < n) {y : P2} (h : bagF n f y) : bagF n (swF f i j) y := by
  obtain ⟨k, h1, h2⟩ := h
  by_cases ei : k = i
  · subst ei; exact ⟨j, hj, by rw [swF_r]; exact h2⟩
  · by_cases ej : k = j
    · subst ej; exact ⟨i, hi, by rw [swF_l]; exact h2⟩
    · exact ⟨k, h1, by rw [swF_o _ ei ej]; exact h2⟩
theorem bag_swap {n : Nat} {f : Nat → P2} {i j : Nat} (hi : i < n) (hj : j < n) (y : P2) : bagF n (swF f i j) y ↔ bagF n f y := by
  refine ⟨fun h => ?_, bag_swap1 hi hj⟩
  have h2 := bag_swap1 hi hj h
  obtain ⟨k, h3, h4⟩ := h2
  rw [swF_swF] at h4
  exact ⟨k, h3, h4⟩
/-- Each is no nearer than the one above it. -/
def HeapF (n : Nat) (f : Nat → P2) : Prop := ∀ k, 0 < k → k < n → (f ((k - 1) / 2)).d ≤ (f k).d
theorem heap_root {n : Nat} {f : Nat → P2} (h : HeapF n f) : ∀ (m k : Nat), k ≤ m → k < n → (f 0).d ≤ (f k).d
  | m, 0, _, _ => Int.le_refl _
  | 0, k + 1, h1, _ => by omega
  | m + 1, k + 1, h1, h2 => by
    have h3 := h (k + 1) (by omega) h2
    have h4 := heap_root h m ((k + 1 - 1) / 2) (by omega) (by omega)
    omega
/-- All are in order but for one that may go up. -/
def UpI (n : Nat) (f : Nat → P2) (j : Nat) : Prop :=
  (∀ k, 0 < k → k < n → k ≠ j → (f ((k - 1) / 2)).d ≤ (f k).d) ∧ ∀ k, 0 < k → k < n → (k - 1) / 2 = j → 0 < j → (f ((j - 1) / 2)).d ≤ (f k).d
theorem up_top {n : Nat} {f : Nat → P2} (h : UpI n f 0) : HeapF n f := fun k h1 h2 => h.1 k h1 h2 (by omega)
theorem up_stop {n : Nat} {f : Nat → P2} {j : Nat} (h : UpI n f j) (hs : ¬ (f j).d < (f ((j - 1) / 2)).d) : HeapF n f := fun k h1 h2 => by
  by_cases e : k = j
  · subst e; omega
  · exact h.1 k h1 h2 e
theorem up_step {n : Nat} {f : Nat → P2} {j : Nat} (h : UpI n f j) (h0 : 0 < j) (hj : j < n) (hs : (f j).d < (f ((j - 1) / 2)).d) : UpI n (swF f ((j - 1) / 2) j) ((j - 1) / 2) := by
  obtain ⟨h1, h2⟩ := h
  have hp : (j - 1) / 2 ≠ j := by omega
  refine ⟨fun k hk hn hkj => ?_, fun k hk hn hkp hp0 => ?_⟩
  · by_cases e : k = j
    · subst e
      rw [swF_l, swF_r]
      omega
    · rw [swF_o f hkj e]
      by_cases e1 : (k - 1) / 2 = j
      · rw [e1, swF_r]
        exact h2 k hk hn e1 h0
      · by_cases e2 : (k - 1) / 2 = (j - 1) / 2
        · rw [e2, swF_l]
          have := h1 k hk hn e
          rw [e2] at this
          omega
        · rw [swF_o f e2 e1]
          exact h1 k hk hn e
  · have hpar := h1 ((j - 1) / 2) hp0 (by omega) hp
    by_cases e : k = j
    · subst e
      rw [swF_r, swF_o f (by omega) (by omega)]
      exact hpar
    · rw [swF_o f (by omega) e, swF_o f (by omega) (by omega)]
      have := h1 k hk hn e
      rw [hkp] at this
      omega
theorem heap_push {n : Nat} {f : Nat → P2} (h : HeapF n f) (g : Nat → P2) (hg : ∀ k, k < n → g k = f k) : UpI (n + 1) g n :=
  ⟨fun k h1 h2 h3 => by rw [hg k (by omega), hg _ (by omega)]; exact h k h1 (by omega), fun k h1 h2 h3 => by omega⟩
/-- All are in order but for one that may go down. -/
def DnI (n : Nat) (f : Nat → P2) (i : Nat) : Prop :=
  (∀ k, 0 < k → k < n → (k - 1) / 2 ≠ i → (f ((k - 1) / 2)).d ≤ (f k).d) ∧ ∀ k, 0 < k → k < n → (k - 1) / 2 = i → 0 < i → (f ((i - 1) / 2)).d ≤ (f k).d
theorem dn_leaf {n : Nat} {f : Nat → P2} {i : Nat} (h : DnI n f i) (hl : n ≤ 2 * i + 1) : HeapF n f := fun k h1 h2 => h.1 k h1 h2 (by omega)
theorem dn_stop {n : Nat} {f : Nat → P2} {i j : Nat} (h : DnI n f i) (hj : ∀ k, 0 < k → k < n → (k - 1) / 2 = i → (f j).d ≤ (f k).d) (hs : ¬ (f j).d < (f i).d) : HeapF n f := fun k h1 h2 => by
  by_cases e : (k - 1) / 2 = i
  · have := hj k h1 h2 e
    rw [e]
    omega
  · exact h.1 k h1 h2 e
theorem dn_step {n : Nat} {f : Nat → P2} {i j : Nat} (h : DnI n f i) (hij : (j - 1) / 2 = i) (h0 : 0 < j) (hjn : j < n) (hj : ∀ k, 0 < k → k < n → (k - 1) / 2 = i → (f j).d ≤ (f k).d) (hs : (f j).d < (f i).d) : DnI n (swF f i j) j := by
  obtain ⟨h1, h2⟩ := h
  have hne : i ≠ j := by omega
  refine ⟨fun k hk hn hkj => ?_, fun k hk hn hkj hj0 => ?_⟩
  · by_cases e : (k - 1) / 2 = i
    · rw [e, swF_l]
      by_cases e2 : k = j
      · subst e2; rw [swF_r]; omega
      · rw [swF_o f (by omega) e2]
        exact hj k hk hn e
    · rw [swF_o f e hkj]
      by_cases e3 : k = i
      · subst e3
        rw [swF_l]
        exact h2 j h0 hjn hij hk
      · by_cases e4 : k = j
        · subst e4; exact absurd hij e
        · rw [swF_o f e3 e4]
          exact h1 k hk hn e
  · have e1 : k ≠ i := by omega
    have e2 : k ≠ j := by omega
    rw [hij, swF_l, swF_o f e1 e2]
    have := h1 k hk hn (by omega)
    rw [hkj] at this
    exact this
/-- The last one is put on top. -/
theorem heap_pop {n : Nat} {f : Nat → P2} (h : HeapF (n + 1) f) : DnI n (swF f 0 n) 0 := by
  refine ⟨fun k h1 h2 h3 => ?_, fun k h1 h2 h3 h4 => by omega⟩
  rw [swF_o f (k := k) (by omega) (by omega), swF_o f (k := (k - 1) / 2) h3 (by omega)]
  exact h k h1 (by omega)
end Go.Proofs.YtgjllminidlolaaGreatDoor
/- Plain mathematics of roads: the values of the distance and of the way. -/
set_option linter.unusedVariables false
namespace Go.Proofs.YtgjllminidlolaaGreatDoor

/-- What is asked about roads and two towns. -/
def FarQ (n : Int) (xs : List T3) (a b : Int) : Prop := RoadOk n xs ∧ (0 ≤ a ∧ a < n) ∧ (0 ≤ b ∧ b < n)
open Classical in
/-- The distance, or -1. -/
noncomputable def farV (n : Int) (xs : List T3) (a b : Int) : Int := if h : FarQ n xs a b ∧ ∃ d, IsFar xs a b d then Classical.choose h.2 else -1
theorem farV_yes {n : Int} {xs : List T3} {a b d : Int} (hq : FarQ n xs a b) (h : IsFar xs a b d) : farV n xs a b = d := by
  unfold farV
  rw [dif_pos ⟨hq, d, h⟩]
  exact far_unique (Classical.choose_spec (p := fun d => IsFar xs a b d) ⟨d, h⟩) h
theorem farV_no {n : Int} {xs : List T3} {a b : Int} (h : ¬ (FarQ n xs a b ∧ ∃ d, IsFar xs a b d)) : farV n xs a b = -1 := by
  unfold farV
  rw [dif_neg h]
theorem farV_cases (n : Int) (xs : List T3) (a b : Int) : (farV n xs a b = -1 ∧ ¬ (FarQ n xs a b ∧ ∃ d, IsFar xs a b d)) ∨ (FarQ n xs a b ∧ IsFar xs a b (farV n xs a b) ∧ 0 ≤ farV n xs a b) := by
  by_cases h : FarQ n xs a b ∧ ∃ d, IsFar xs a b d
  · obtain ⟨hq, d, hd⟩ := h
    refine .inr ⟨hq, ?_⟩
    rw [farV_yes hq hd]
    exact ⟨hd, (way_bd hq.1 hq.2.1 hd.1).2.2.1⟩
  · exact .inl ⟨farV_no h, h⟩
theorem farV_far {n : Int} {xs : List T3} {a b : Int} (h : 0 ≤ farV n xs a b) : FarQ n xs a b ∧ IsFar xs a b (farV n xs a b) := by
  rcases farV_cases n xs a b with ⟨h1, _⟩ | ⟨h1, h2, _⟩
  · omega
  · exact ⟨h1, h2⟩
/-- Where there is a way there is a distance. -/
theorem farV_way {n : Int} {xs : List T3} {a b d : Int} (hq : FarQ n xs a b) (h : Way xs a b d) : IsFar xs a b (farV n xs a b) ∧ 0 ≤ farV n xs a b ∧ farV n xs a b ≤ d := by
  have hb := way_bd hq.1 hq.2.1 h
  obtain ⟨d0, h0⟩ := far_exists hq.1 hq.2.1 d.toNat b d h (by omega)
  rw [farV_yes hq h0]
  exact ⟨h0, (way_bd hq.1 hq.2.1 h0.1).2.2.1, h0.2 d h⟩
theorem farV_none {n : Int} {xs : List T3} {a b : Int} (h : ∀ d, ¬ Way xs a b d) : farV n xs a b = -1 := farV_no fun ⟨_, d, hd⟩ => h d hd.1
theorem farV_bd (n : Int) (xs : List T3) (a b : Int) : -1 ≤ farV n xs a b ∧ farV n xs a b ≤ 792 := by
  rcases farV_cases n xs a b with ⟨h, _⟩ | ⟨⟨h1, h2, h3⟩, h4, h5⟩
  · omega
  · have hn := h1.1
    have hn8 := h1.2.1
    obtain ⟨m, rfl⟩ : ∃ m : Nat, n = m := ⟨n.toNat, by omega⟩
    have h6 := far_small h1 h2 m b _ h4 (by have := rank_le h1 h2 h4; omega)
    omega
open Classical in
/-- The towns of the way. -/
noncomputable def wayV (n : Int) (xs : List T3) (a b : Int) : List Int := if h : 0 ≤ farV n xs a b ∧ ∃ l, WayP xs b a l then Classical.choose h.2 else []
theorem wayV_no {n : Int} {xs : List T3} {a b : Int} (h : farV n xs a b < 0) : wayV n xs a b = [] := by
  unfold wayV
  rw [dif_neg (fun h1 => by omega)]
theorem wayV_yes {n : Int} {xs : List T3} {a b : Int} (h : 0 ≤ farV n xs a b) : WayP xs b a (wayV n xs a b) := by
  obtain ⟨hq, hf⟩ := farV_far h
  obtain ⟨l, hl, _⟩ := wayP_exists hq.1 hq.2.2 (farV n xs a b).toNat a _ (far_symm hf) (by omega)
  unfold wayV
  rw [dif_pos ⟨h, l, hl⟩]
  exact Classical.choose_spec (p := fun l => WayP xs b a l) ⟨l, hl⟩
theorem wayV_eq {n : Int} {xs : List T3} {a b : Int} {l : List Int} (h : 0 ≤ farV n xs a b) (hl : WayP xs b a l) : wayV n xs a b = l := wayP_unique (wayV_yes h) hl
theorem wayP_mem {n : Int} {xs : List T3} (hok : RoadOk n xs) {b : Int} (hb : 0 ≤ b ∧ b < n) {a : Int} {l : List Int} (h : WayP xs b a l) : (0 ≤ a ∧ a < n) → ∀ x ∈ l, 0 ≤ x ∧ x < n := by
  induction h with
  | here =>
    intro ha x hx
    rw [List.mem_singleton] at hx
    subst hx
    exact hb
  | @on a v l h1 h2 h3 ih =>
    intro ha x hx
    rcases List.mem_cons.1 hx with rfl | hx
    · exact ha
    · obtain ⟨w, dv, he, _⟩ := h2.1
      have := edge_bd hok he
      exact ih ⟨this.2.2.1, this.2.2.2.1⟩ x hx
theorem wayV_mem {n : Int} {xs : List T3} {a b : Int} (h : 0 ≤ farV n xs a b) : ∀ x ∈ wayV n xs a b, 0 ≤ x ∧ x < n := by
  obtain ⟨hq, _⟩ := farV_far h
  exact wayP_mem hq.1 hq.2.2 (wayV_yes h) hq.2.1
/-- A way visits no town twice: it gets nearer. -/
theorem wayP_len {n : Nat} {xs : List T3} (hok : RoadOk n xs) {b : Int} (hb : 0 ≤ b ∧ b < n) {a : Int} {l : List Int} (h : WayP xs b a l) : ∀ d, IsFar xs b a d → l.length ≤ rank xs b n d + 1 := by
  induction h with
  | here => intro d hd; simp
  | @on a v l h1 h2 h3 ih =>
    intro d hd
    obtain ⟨_, _, dv, h4, h5, h6, _⟩ := next_facts hok hb h2.1 hd
    have h7 := ih dv h4
    have h8 := rank_lt hok hb h4 h6
    rw [List.length_cons]
    omega
theorem wayV_len {n : Int} {xs : List T3} {a b : Int} (h : 0 ≤ farV n xs a b) : 1 ≤ (wayV n xs a b).length ∧ (wayV n xs a b).length ≤ 8 := by
  obtain ⟨hq, hf⟩ := farV_far h
  have hn := hq.1.1
  have hn8 := hq.1.2.1
  obtain ⟨m, rfl⟩ : ∃ m : Nat, n = m := ⟨n.toNat, by omega⟩
  have h1 := wayV_yes h
  have h2 := wayP_len hq.1 hq.2.2 h1 _ (far_symm hf)
  have h3 := rank_le hq.1 hq.2.2 (far_symm hf)
  refine ⟨?_, by omega⟩
  cases hw : wayV (m : Int) xs a b with
  | nil => rw [hw] at h1; cases h1
  | cons x l => simp
end Go.Proofs.YtgjllminidlolaaGreatDoor
/- Plain mathematics of posts: the earliest times, and that rounds over all coaches find them. -/
set_option linter.unusedVariables false
namespace Go.Proofs.YtgjllminidlolaaGreatDoor

/-- A timetable of n towns. -/
def StopsOk (n : Int) (xs : List T3) : Prop :=
  1 ≤ n ∧ n ≤ 8 ∧ 2 ≤ xs.length ∧ xs.length ≤ 8 ∧ (∀ p ∈ xs, 0 ≤ p.a ∧ p.a < n ∧ 0 ≤ p.b ∧ p.b ≤ p.c ∧ p.c ≤ 10000) ∧ ∀ (i j : Nat) p q, i < j → xs[i]? = some p → xs[j]? = some q → p.c < q.b ∧ p.a ≠ q.a
/-- Timetables of n towns. -/
def NetOk (n : Int) (net : List (List T3)) : Prop := 1 ≤ n ∧ n ≤ 8 ∧ net.length ≤ 6 ∧ ∀ xs ∈ net, StopsOk n xs
/-- What a letter waits at least in a town. -/
def lag (s0 ch t : Int) : Int := if t = s0 then 0 else ch
/-- A letter can come to a town at a time. -/
inductive Come (net : List (List T3)) (s0 t0 ch : Int) : Int → Int → Prop
  | start : Come net s0 t0 ch s0 t0
  | ride {xs : List T3} {i k : Nat} {p q : T3} {t : Int} : Come net s0 t0 ch p.a t → xs ∈ net → xs[i]? = some p → xs[k]? = some q → i < k → t + lag s0 ch p.a ≤ p.c → Come net s0 t0 ch q.a q.b
/-- The earliest time. -/
def IsFst (net : List (List T3)) (s0 t0 ch v d : Int) : Prop := Come net s0 t0 ch v d ∧ ∀ d', Come net s0 t0 ch v d' → d ≤ d'
/-- What is asked about. -/
structure PostOk (n : Int) (net : List (List T3)) (s0 t0 ch : Int) : Prop where
  net : NetOk n net
  s0 : 0 ≤ s0 ∧ s0 < n
  t0 : 0 ≤ t0 ∧ t0 ≤ 10000
  ch : 0 ≤ ch ∧ ch ≤ 10000
theorem lag_bd {s0 ch : Int} (h : 0 ≤ ch) (t : Int) : 0 ≤ lag s0 ch t ∧ lag s0 ch t ≤ ch := by
  unfold lag
  split <;> omega
section
variable {n : Int} {net : List (List T3)} {s0 t0 ch : Int}
theorem stop_bd (hok : NetOk n net) {xs : List T3} (hx : xs ∈ net) {i : Nat} {p : T3} (hp : xs[i]? = some p) : 0 ≤ p.a ∧ p.a < n ∧ 0 ≤ p.b ∧ p.b ≤ p.c ∧ p.c ≤ 10000 :=
  (hok.2.2.2 xs hx).2.2.2.2.1 p (List.mem_of_getElem? hp)
theorem stop_lt (hok : NetOk n net) {xs : List T3} (hx : xs ∈ net) {i k : Nat} {p q : T3} (hp : xs[i]? = some p) (hq : xs[k]? = some q) (h : i < k) : p.c < q.b ∧ p.a ≠ q.a :=
  (hok.2.2.2 xs hx).2.2.2.2.2 i k p q h hp hq
theorem come_bd (hok : PostOk n net s0 t0 ch) {v d : Int} (h : Come net s0 t0 ch v d) : 0 ≤ v ∧ v < n ∧ t0 ≤ d ∧ d ≤ 10000 := by
  induction h with
  | start => have := hok.s0; have := hok.t0; omega
  | @ride xs i k p q t h1 hx hp hq hi hl ih =>
    have h2 := stop_bd hok.net hx hp
    have h3 := stop_bd hok.net hx hq
    have h4 := stop_lt hok.net hx hp hq hi
    have h5 := (lag_bd (s0 := s0) hok.ch.1 p.a).1
    exact ⟨h3.1, h3.2.1, by omega, by omega⟩
theorem fst_unique {v d d' : Int} (h : IsFst net s0 t0 ch v d) (h' : IsFst net s0 t0 ch v d') : d = d' := by
  have h1 := h.2 _ h'.1
  have h2 := h'.2 _ h.1
  omega
theorem fst_exists (hok : PostOk n net s0 t0 ch) : ∀ (k : Nat) (v d : Int), Come net s0 t0 ch v d → d ≤ k → ∃ d0, IsFst net s0 t0 ch v d0
  | 0, v, d, h, hk => by
    have := come_bd hok h
    have := hok.t0
    exact ⟨d, h, fun d' h' => by have := come_bd hok h'; omega⟩
  | k + 1, v, d, h, hk => by
    by_cases hx : ∃ d', Come net s0 t0 ch v d' ∧ d' ≤ k
    · obtain ⟨d', h1, h2⟩ := hx
      exact fst_exists hok k v d' h1 h2
    · refine ⟨d, h, fun d' h' => ?_⟩
      rcases Int.lt_or_le d' d with h1 | h1
      · exact absurd ⟨d', h', by omega⟩ hx
      · exact h1
theorem fst_of (hok : PostOk n net s0 t0 ch) {v d : Int} (h : Come net s0 t0 ch v d) : ∃ d0, IsFst net s0 t0 ch v d0 ∧ d0 ≤ d := by
  obtain ⟨d0, h0⟩ := fst_exists hok d.toNat v d h (by omega)
  exact ⟨d0, h0, h0.2 _ h⟩
theorem fst_start (hok : PostOk n net s0 t0 ch) : IsFst net s0 t0 ch s0 t0 := ⟨Come.start, fun d' h' => (come_bd hok h').2.2.1⟩
/-- The last ride of an earliest journey. -/
theorem fst_last (hok : PostOk n net s0 t0 ch) {v d : Int} (h : IsFst net s0 t0 ch v d) :
    (v = s0 ∧ d = t0) ∨ ∃ (xs : List T3) (i k : Nat) (p q : T3) (d1 : Int), IsFst net s0 t0 ch p.a d1 ∧ xs ∈ net ∧ xs[i]? = some p ∧ xs[k]? = some q ∧ i < k ∧ d1 + lag s0 ch p.a ≤ p.c ∧ q.a = v ∧ q.b = d ∧ d1 < d := by
  obtain ⟨h1, h2⟩ := h
  cases h1 with
  | start => exact .inl ⟨rfl, rfl⟩
  | @ride xs i k p q t h3 hx hp hq hi hl =>
    obtain ⟨d1, h4, h5⟩ := fst_of hok h3
    have h6 := stop_lt hok.net hx hp hq hi
    have h7 := (lag_bd (s0 := s0) hok.ch.1 p.a).1
    exact .inr ⟨xs, i, k, p, q, d1, h4, hx, hp, hq, hi, by omega, rfl, rfl, by omega⟩

/-! ### A table -/
/-- A letter can take a coach at a stop. -/
def Rdy (f : Int → Int) (s0 ch : Int) (p : T3) : Prop := 0 ≤ f p.a ∧ f p.a + lag s0 ch p.a ≤ p.c
instance (f : Int → Int) (s0 ch : Int) (p : T3) : Decidable (Rdy f s0 ch p) := by unfold Rdy; exact inferInstance
/-- All times of a table can be had. -/
def SndP (net : List (List T3)) (s0 t0 ch : Int) (f : Int → Int) : Prop := ∀ t, f t = -1 ∨ (0 ≤ f t ∧ Come net s0 t0 ch t (f t))
/-- A table is nowhere later. -/
def Soon (f' f : Int → Int) : Prop := ∀ t, 0 ≤ f t → 0 ≤ f' t ∧ f' t ≤ f t
theorem Soon.refl (f : Int → Int) : Soon f f := fun t h => ⟨h, Int.le_refl _⟩
theorem Soon.trans {f g h : Int → Int} (h1 : Soon f g) (h2 : Soon g h) : Soon f h := fun t ht => by
  have a := h2 t ht
  have b := h1 t a.1
  omega
/-- The rides from a town bring nothing earlier. -/
def Clo (net : List (List T3)) (s0 ch : Int) (f : Int → Int) (u : Int) : Prop :=
  ∀ xs ∈ net, ∀ (i k : Nat) (p q : T3), i < k → xs[i]? = some p → xs[k]? = some q → p.a = u → Rdy f s0 ch p → 0 ≤ f q.a ∧ f q.a ≤ q.b
/-- The table of the earliest times. -/
def TableOf (net : List (List T3)) (s0 t0 ch : Int) (f : Int → Int) : Prop := ∀ v, (f v = -1 ∧ ∀ d, ¬ Come net s0 t0 ch v d) ∨ (0 ≤ f v ∧ IsFst net s0 t0 ch v (f v))
theorem table_unique {f g : Int → Int} (hf : TableOf net s0 t0 ch f) (hg : TableOf net s0 t0 ch g) (v : Int) : f v = g v := by
  rcases hf v with ⟨h1, h2⟩ | ⟨h1, h2⟩ <;> rcases hg v with ⟨h3, h4⟩ | ⟨h3, h4⟩
  · omega
  · exact absurd h4.1 (h2 _)
  · exact absurd h2.1 (h4 _)
  · exact fst_unique h2 h4
/-- A table with all rides closed. -/
theorem table_closed (hok : PostOk n net s0 t0 ch) {f : Int → Int} (hs : SndP net s0 t0 ch f) (h0 : 0 ≤ f s0 ∧ f s0 ≤ t0) (hc : ∀ u, Clo net s0 ch f u) : TableOf net s0 t0 ch f := by
  have key : ∀ v d, Come net s0 t0 ch v d → 0 ≤ f v ∧ f v ≤ d := by
    intro v d h
    induction h with
    | start => exact h0
    | @ride xs i k p q t h1 hx hp hq hi hl ih => exact hc p.a xs hx i k p q hi hp hq rfl ⟨ih.1, by omega⟩
  intro v
  rcases hs v with h1 | ⟨h1, h2⟩
  · exact .inl ⟨h1, fun d hd => by have := key v d hd; omega⟩
  · exact .inr ⟨h1, h2, fun d hd => (key v d hd).2⟩
/-- A table with no time too late. -/
theorem table_soon {f : Int → Int} (hs : SndP net s0 t0 ch f) (hc : ∀ v d, IsFst net s0 t0 ch v d → 0 ≤ f v ∧ f v ≤ d) (hok : PostOk n net s0 t0 ch) : TableOf net s0 t0 ch f := by
  intro v
  rcases hs v with h1 | ⟨h1, h2⟩
  · refine .inl ⟨h1, fun d hd => ?_⟩
    obtain ⟨d0, h3, _⟩ := fst_of hok hd
    have := hc v d0 h3
    omega
  · refine .inr ⟨h1, h2, fun d hd => ?_⟩
    obtain ⟨d0, h3, h4⟩ := fst_of hok hd
    have := hc v d0 h3
    omega
theorem snd_put {f : Int → Int} (hs : SndP net s0 t0 ch f) {v d : Int} (hd : 0 ≤ d) (hc : Come net s0 t0 ch v d) : SndP net s0 t0 ch (updI f v d) := fun t => by
  by_cases e : t = v
  · subst e
    rw [updI_self]
    exact .inr ⟨hd, hc⟩
  · rw [updI_ne e]
    exact hs t
theorem soon_put {f : Int → Int} {v d : Int} (hd : 0 ≤ d) (h : f v < 0 ∨ d ≤ f v) : Soon (updI f v d) f := fun t ht => by
  by_cases e : t = v
  · subst e
    rw [updI_self]
    omega
  · rw [updI_ne e]
    omega
theorem clo_soon {f f' : Int → Int} (hs : Soon f' f) {u : Int} (he : f' u = f u) (h : Clo net s0 ch f u) : Clo net s0 ch f' u := fun xs hx i k p q hi hp hq hu hr => by
  have h1 := h xs hx i k p q hi hp hq hu (by unfold Rdy at *; rw [hu] at *; rw [← he]; exact hr)
  have h2 := hs q.a h1.1
  omega

/-! ### How many towns are earlier -/
open Classical in
noncomputable def rankP (net : List (List T3)) (s0 t0 ch : Int) (n : Nat) (d : Int) : Nat := (List.range n).countP fun (u : Nat) => decide (∃ d', IsFst net s0 t0 ch u d' ∧ d' < d)
theorem rankP_lt {n : Nat} (hok : PostOk n net s0 t0 ch) {u d1 d : Int} (h : IsFst net s0 t0 ch u d1) (hd : d1 < d) : rankP net s0 t0 ch n d1 < rankP net s0 t0 ch n d := by
  have hu := come_bd hok h.1
  refine countP_lt _ _ _ (fun x _ hx => ?_) ⟨u.toNat, List.mem_range.2 (by omega), ?_, ?_⟩
  · simp only [decide_eq_true_eq] at hx ⊢
    obtain ⟨d', h1, h2⟩ := hx
    exact ⟨d', h1, by omega⟩
  · simp only [decide_eq_true_eq]
    exact ⟨d1, by rw [Int.toNat_of_nonneg hu.1]; exact h, hd⟩
  · simp only [decide_eq_false_iff_not]
    rintro ⟨d', h1, h2⟩
    rw [Int.toNat_of_nonneg hu.1] at h1
    have := fst_unique h h1
    omega
theorem rankP_le {n : Nat} (hok : PostOk n net s0 t0 ch) {v d : Int} (h : IsFst net s0 t0 ch v d) : rankP net s0 t0 ch n d < n := by
  have hv := come_bd hok h.1
  have h1 := countP_lt (fun (u : Nat) => @decide (∃ d', IsFst net s0 t0 ch u d' ∧ d' < d) (Classical.propDecidable _)) (fun _ => true) (List.range n) (fun _ _ _ => rfl) ⟨v.toNat, List.mem_range.2 (by omega), rfl, by
    simp only [decide_eq_false_iff_not]
    rintro ⟨d', h1, h2⟩
    rw [Int.toNat_of_nonneg hv.1] at h1
    have := fst_unique h h1
    omega⟩
  have h2 : (List.range n).countP (fun _ => true) = n := by simp
  unfold rankP
  omega

/-! ### Rounds over all coaches -/
/-- One stop of a coach; whether the letter rides it. -/
def stopP (s0 ch : Int) (st : (Int → Int) × Bool) (p : T3) : (Int → Int) × Bool :=
  (if st.2 = true ∧ (st.1 p.a < 0 ∨ p.b < st.1 p.a) then updI st.1 p.a p.b else st.1,
   st.2 || decide (Rdy (if st.2 = true ∧ (st.1 p.a < 0 ∨ p.b < st.1 p.a) then updI st.1 p.a p.b else st.1) s0 ch p))
def coachP (s0 ch : Int) (f : Int → Int) (xs : List T3) : Int → Int := (xs.foldl (stopP s0 ch) (f, false)).1
def roundP (s0 ch : Int) (net : List (List T3)) (f : Int → Int) : Int → Int := net.foldl (coachP s0 ch) f
def tstart (s0 t0 : Int) : Int → Int := updI (fun _ => -1) s0 t0
def roundsP (s0 t0 ch : Int) (net : List (List T3)) : Nat → Int → Int
  | 0 => tstart s0 t0
  | r + 1 => roundP s0 ch net (roundsP s0 t0 ch net r)
theorem stopP_soon (hok : NetOk n net) {xs : List T3} (hx : xs ∈ net) {j : Nat} {p : T3} (hp : xs[j]? = some p) (st : (Int → Int) × Bool) : Soon (stopP s0 ch st p).1 st.1 := by
  have hb := stop_bd hok hx hp
  unfold stopP
  dsimp only
  split
  · rename_i h
    exact soon_put hb.2.2.1 (by omega)
  · exact Soon.refl _
/-- What holds along a coach: the times can be had, and the letter that rides has got on. -/
def AlongP (net : List (List T3)) (s0 t0 ch : Int) (xs : List T3) (j : Nat) (st : (Int → Int) × Bool) : Prop :=
  SndP net s0 t0 ch st.1 ∧ (st.2 = true → ∃ (i : Nat) (p : T3) (t : Int), i < j ∧ xs[i]? = some p ∧ Come net s0 t0 ch p.a t ∧ t + lag s0 ch p.a ≤ p.c)
theorem along_step (hok : PostOk n net s0 t0 ch) {xs : List T3} (hx : xs ∈ net) {j : Nat} {p : T3} (hp : xs[j]? = some p) {st : (Int → Int) × Bool} (h : AlongP net s0 t0 ch xs j st) : AlongP net s0 t0 ch xs (j + 1) (stopP s0 ch st p) := by
  have hb := stop_bd hok.net hx hp
  have h1 : SndP net s0 t0 ch (stopP s0 ch st p).1 := by
    unfold stopP
    dsimp only
    split
    · rename_i h2
      obtain ⟨i, q, t, hi, hq, hc, hl⟩ := h.2 h2.1
      exact snd_put h.1 hb.2.2.1 (Come.ride hc hx hq hp hi hl)
    · exact h.1
  refine ⟨h1, fun h2 => ?_⟩
  have h3 : st.2 = true ∨ Rdy (stopP s0 ch st p).1 s0 ch p := by
    simp only [stopP, Bool.or_eq_true, decide_eq_true_eq] at h2 ⊢
    exact h2
  rcases h3 with h3 | h3
  · obtain ⟨i, q, t, hi, hq, hc, hl⟩ := h.2 h3
    exact ⟨i, q, t, by omega, hq, hc, hl⟩
  · rcases h1 p.a with h4 | ⟨h4, h5⟩
    · have := h3.1
      omega
    · exact ⟨j, p, _, by omega, hp, h5, h3.2⟩
/-- Along a coach. -/
theorem coach_fold (hok : PostOk n net s0 t0 ch) {xs : List T3} (hx : xs ∈ net) {f : Int → Int} (hf : SndP net s0 t0 ch f) : ∀ j, j ≤ xs.length →
    AlongP net s0 t0 ch xs j ((xs.take j).foldl (stopP s0 ch) (f, false)) ∧ Soon ((xs.take j).foldl (stopP s0 ch) (f, false)).1 f ∧
    ∀ (i : Nat) p, i < j → xs[i]? = some p → Rdy f s0 ch p → ((xs.take j).foldl (stopP s0 ch) (f, false)).2 = true ∧ ∀ (k : Nat) q, i < k → k < j → xs[k]? = some q → 0 ≤ ((xs.take j).foldl (stopP s0 ch) (f, false)).1 q.a ∧ ((xs.take j).foldl (stopP s0 ch) (f, false)).1 q.a ≤ q.b
  | 0, _ => ⟨⟨hf, fun h => by simp at h⟩, Soon.refl _, fun i p hi => by omega⟩
  | j + 1, hj => by
    obtain ⟨h1, h2, h3⟩ := coach_fold hok hx hf j (by omega)
    obtain ⟨p, hp⟩ : ∃ p, xs[j]? = some p := ⟨_, List.getElem?_eq_getElem (by omega)⟩
    rw [take_next hp, List.foldl_append]
    generalize (xs.take j).foldl (stopP s0 ch) (f, false) = st at *
    simp only [List.foldl_cons, List.foldl_nil]
    have hsn := stopP_soon (s0 := s0) (ch := ch) hok.net hx hp st
    have hb := stop_bd hok.net hx hp
    refine ⟨along_step hok hx hp h1, hsn.trans h2, fun i q hi hq hr => ?_⟩
    by_cases e : i = j
    · subst e
      obtain rfl : q = p := by rw [hp] at hq; exact (Option.some.inj hq).symm
      refine ⟨?_, fun k _ h5 h6 => by omega⟩
      have h4 : Rdy (stopP s0 ch st q).1 s0 ch q := by
        have := (hsn.trans h2) q.a hr.1
        exact ⟨this.1, by have := hr.2; omega⟩
      have h5 : (stopP s0 ch st q).2 = (st.2 || decide (Rdy (stopP s0 ch st q).1 s0 ch q)) := rfl
      rw [h5, decide_eq_true h4, Bool.or_true]
    · obtain ⟨h4, h5⟩ := h3 i q (by omega) hq hr
      refine ⟨?_, fun k r h6 h7 h8 => ?_⟩
      · have h9 : (stopP s0 ch st p).2 = (st.2 || decide (Rdy (stopP s0 ch st p).1 s0 ch p)) := rfl
        rw [h9, h4, Bool.true_or]
      · by_cases ek : k = j
        · subst ek
          obtain rfl : r = p := by rw [hp] at h8; exact (Option.some.inj h8).symm
          by_cases h9 : st.1 r.a < 0 ∨ r.b < st.1 r.a
          · have h10 : (stopP s0 ch st r).1 = updI st.1 r.a r.b := by
              unfold stopP
              dsimp only
              rw [if_pos ⟨h4, h9⟩]
            rw [h10, updI_self]
            omega
          · have h10 : (stopP s0 ch st r).1 = st.1 := by
              unfold stopP
              dsimp only
              rw [if_neg (fun h => h9 h.2)]
            rw [h10]
            omega
        · have h9 := h5 k r h6 (by omega) h8
          have h10 := hsn r.a h9.1
          omega
theorem coach_all (hok : PostOk n net s0 t0 ch) {xs : List T3} (hx : xs ∈ net) {f : Int → Int} (hf : SndP net s0 t0 ch f) :
    SndP net s0 t0 ch (coachP s0 ch f xs) ∧ Soon (coachP s0 ch f xs) f ∧ ∀ (i k : Nat) p q, i < k → xs[i]? = some p → xs[k]? = some q → Rdy f s0 ch p → 0 ≤ coachP s0 ch f xs q.a ∧ coachP s0 ch f xs q.a ≤ q.b := by
  have h := coach_fold hok hx hf xs.length (Nat.le_refl _)
  rw [List.take_length] at h
  refine ⟨h.1.1, h.2.1, fun i k p q hi hp hq hr => ?_⟩
  have hk := (List.getElem?_eq_some_iff.1 hq).1
  exact (h.2.2 i p (by omega) hp hr).2 k q hi hk hq
theorem rdy_soon {f f' : Int → Int} (hs : Soon f' f) {p : T3} (h : Rdy f s0 ch p) : Rdy f' s0 ch p := by
  have := hs p.a h.1
  exact ⟨this.1, by have := h.2; omega⟩
theorem round_fold (hok : PostOk n net s0 t0 ch) : ∀ (ys : List (List T3)) (f : Int → Int), (∀ xs ∈ ys, xs ∈ net) → SndP net s0 t0 ch f →
    SndP net s0 t0 ch (ys.foldl (coachP s0 ch) f) ∧ Soon (ys.foldl (coachP s0 ch) f) f ∧ ∀ xs ∈ ys, ∀ (i k : Nat) p q, i < k → xs[i]? = some p → xs[k]? = some q → Rdy f s0 ch p → 0 ≤ ys.foldl (coachP s0 ch) f q.a ∧ ys.foldl (coachP s0 ch) f q.a ≤ q.b
  | [], f, _, hf => ⟨hf, Soon.refl _, fun xs hx => by cases hx⟩
  | x :: ys, f, hy, hf => by
    obtain ⟨h1, h2, h3⟩ := coach_all hok (hy x (List.mem_cons_self ..)) hf
    obtain ⟨h4, h5, h6⟩ := round_fold hok ys (coachP s0 ch f x) (fun z hz => hy z (List.mem_cons_of_mem _ hz)) h1
    rw [List.foldl_cons]
    refine ⟨h4, h5.trans h2, fun xs hx i k p q hi hp hq hr => ?_⟩
    rcases List.mem_cons.1 hx with rfl | hx
    · have h7 := h3 i k p q hi hp hq hr
      have h8 := h5 q.a h7.1
      omega
    · exact h6 xs hx i k p q hi hp hq (rdy_soon h2 hr)
theorem rounds_snd (hok : PostOk n net s0 t0 ch) : ∀ r, SndP net s0 t0 ch (roundsP s0 t0 ch net r) ∧ 0 ≤ roundsP s0 t0 ch net r s0 ∧ roundsP s0 t0 ch net r s0 ≤ t0
  | 0 => by
    have := hok.t0
    refine ⟨snd_put (fun t => .inl rfl) this.1 Come.start, ?_⟩
    show 0 ≤ tstart s0 t0 s0 ∧ tstart s0 t0 s0 ≤ t0
    unfold tstart
    rw [updI_self]
    omega
  | r + 1 => by
    obtain ⟨h1, h2, h3⟩ := rounds_snd hok r
    obtain ⟨h4, h5, _⟩ := round_fold hok net _ (fun _ h => h) h1
    have h6 := h5 s0 h2
    exact ⟨h4, h6.1, Int.le_trans h6.2 h3⟩
theorem rounds_fst {n : Nat} (hok : PostOk n net s0 t0 ch) : ∀ (r : Nat) (v d : Int), IsFst net s0 t0 ch v d → rankP net s0 t0 ch n d ≤ r → 0 ≤ roundsP s0 t0 ch net r v ∧ roundsP s0 t0 ch net r v ≤ d
  | r, v, d, h, hr => by
    rcases fst_last hok h with ⟨rfl, rfl⟩ | ⟨xs, i, k, p, q, d1, h1, hx, hp, hq, hi, hl, rfl, rfl, hd⟩
    · exact (rounds_snd hok r).2
    · have hlt := rankP_lt hok h1 hd
      cases r with
      | zero => omega
      | succ r =>
        have ih := rounds_fst hok r p.a d1 h1 (by omega)
        exact (round_fold hok net _ (fun _ h => h) (rounds_snd hok r).1).2.2 xs hx i k p q hi hp hq ⟨ih.1, by omega⟩
/-- So many rounds find the table. -/
theorem rounds_table {n : Nat} (hok : PostOk n net s0 t0 ch) (r : Nat) (hr : n ≤ r) : TableOf net s0 t0 ch (roundsP s0 t0 ch net r) :=
  table_soon (rounds_snd hok r).1 (fun v d h => rounds_fst hok r v d h (by have := rankP_le hok h; omega)) hok
end
end Go.Proofs.YtgjllminidlolaaGreatDoor
/- Plain mathematics of posts: what spreads from town to town finds the earliest times; the last ride. -/
set_option linter.unusedVariables false
namespace Go.Proofs.YtgjllminidlolaaGreatDoor

section
variable {n : Nat} {net : List (List T3)} {s0 t0 ch : Int}
/-- How much a table can still fall. -/
def muP : Nat → (Int → Int) → Nat
  | 0, f => 0
  | k + 1, f => muP k f + if f k < 0 then 20001 else (f k).toNat
theorem muP_same {f g : Int → Int} : ∀ k : Nat, (∀ j : Nat, j < k → f j = g j) → muP k f = muP k g
  | 0, _ => rfl
  | k + 1, h => by rw [muP, muP, muP_same k (fun j hj => h j (by omega)), h k (by omega)]
theorem muP_put {f : Int → Int} {v d : Int} (h0 : 0 ≤ v) (hd : 0 ≤ d) (hm : d ≤ 10000) (hv : f v < 0 ∨ d < f v) : ∀ k : Nat, v < k → muP k (updI f v d) < muP k f
  | 0, h => by omega
  | k + 1, h => by
    rw [muP, muP]
    by_cases e : v = k
    · subst e
      rw [muP_same k (g := f) (fun j hj => updI_ne (by omega)), updI_self, if_neg (by omega)]
      split <;> omega
    · have ih := muP_put h0 hd hm hv k (by omega)
      rw [updI_ne (show (k : Int) ≠ v from fun h => e h.symm)]
      omega
/-- What has been found from a town on. -/
structure Spr (net : List (List T3)) (s0 t0 ch : Int) (n : Nat) (f : Int → Int) (u : Int) (f' : Int → Int) : Prop where
  snd : SndP net s0 t0 ch f'
  soon : Soon f' f
  mu : muP n f' ≤ muP n f
  chg : ∀ v, f' v ≠ f v → Clo net s0 ch f' v
  clo : Clo net s0 ch f' u
/-- The first so many coaches bring nothing earlier. -/
def ClP (net : List (List T3)) (s0 ch : Int) (f : Int → Int) (u : Int) (c : Nat) : Prop :=
  ∀ (m : Nat) (xs : List T3), m < c → net[m]? = some xs → ∀ (i k : Nat) (p q : T3), i < k → xs[i]? = some p → xs[k]? = some q → p.a = u → Rdy f s0 ch p → 0 ≤ f q.a ∧ f q.a ≤ q.b
/-- What holds while the coaches from a town are tried. -/
structure InP (net : List (List T3)) (s0 t0 ch : Int) (n : Nat) (f0 : Int → Int) (u : Int) (c : Nat) (f : Int → Int) : Prop where
  snd : SndP net s0 t0 ch f
  soon : Soon f f0
  mu : muP n f ≤ muP n f0
  chg : ∀ v, f v ≠ f0 v → Clo net s0 ch f v
  clp : ClP net s0 ch f u c
theorem inP_start {f : Int → Int} (hs : SndP net s0 t0 ch f) (u : Int) : InP net s0 t0 ch n f u 0 f :=
  ⟨hs, Soon.refl _, Nat.le_refl _, fun v h => absurd rfl h, fun m xs h => by omega⟩
theorem clo_clp {f : Int → Int} {u : Int} (h : Clo net s0 ch f u) (c : Nat) : ClP net s0 ch f u c :=
  fun m xs _ hx i k p q hi hp hq hu hr => h xs (List.mem_of_getElem? hx) i k p q hi hp hq hu hr
/-- A ride that brings something earlier. -/
theorem inP_put {f0 f f' : Int → Int} {u : Int} {c : Nat} {q : T3} (h : InP net s0 t0 ch n f0 u c f) (hb : 0 ≤ q.b ∧ q.b ≤ 10000) (hq : f q.a < 0 ∨ q.b < f q.a)
    (hs : Spr net s0 t0 ch n (updI f q.a q.b) q.a f') (ha : 0 ≤ q.a ∧ q.a < n) : InP net s0 t0 ch n f0 u c f' ∧ 0 ≤ f' q.a ∧ f' q.a ≤ q.b ∧ Soon f' f := by
  have h1 : Soon f' f := hs.soon.trans (soon_put hb.1 (by omega))
  have h2 : ∀ v, f' v ≠ f v → Clo net s0 ch f' v := fun v hv => by
    by_cases e : v = q.a
    · subst e
      exact hs.clo
    · exact hs.chg v (by rw [updI_ne e]; exact hv)
  have h3 := hs.soon q.a (by rw [updI_self]; exact hb.1)
  rw [updI_self] at h3
  have h4 := muP_put (f := f) (v := q.a) (d := q.b) ha.1 hb.1 hb.2 hq n ha.2
  refine ⟨⟨hs.snd, h1.trans h.soon, by have := hs.mu; have := h.mu; omega, fun v hv => ?_, ?_⟩, h3.1, h3.2, h1⟩
  · by_cases e : f' v = f v
    · exact clo_soon h1 e (h.chg v (by rw [← e]; exact hv))
    · exact h2 v e
  · by_cases e : f' u = f u
    · intro m xs hm hx i k p r hi hp hr hu hy
      have h5 := h.clp m xs hm hx i k p r hi hp hr hu (by unfold Rdy at *; rw [hu] at *; rw [← e]; exact hy)
      have h6 := h1 r.a h5.1
      omega
    · exact clo_clp (h2 u e) c
/-- A coach is done. -/
theorem inP_next {f0 f : Int → Int} {u : Int} {c : Nat} {xs : List T3} (h : InP net s0 t0 ch n f0 u c f) (hx : net[c]? = some xs)
    (hc : ∀ (i k : Nat) (p q : T3), i < k → xs[i]? = some p → xs[k]? = some q → p.a = u → Rdy f s0 ch p → 0 ≤ f q.a ∧ f q.a ≤ q.b) : InP net s0 t0 ch n f0 u (c + 1) f :=
  ⟨h.snd, h.soon, h.mu, h.chg, fun m ys hm hy => by
    by_cases e : m = c
    · subst e
      obtain rfl : ys = xs := by rw [hx] at hy; exact (Option.some.inj hy).symm
      exact hc
    · exact h.clp m ys (by omega) hy⟩
theorem inP_end {f0 f : Int → Int} {u : Int} (h : InP net s0 t0 ch n f0 u net.length f) : Spr net s0 t0 ch n f0 u f :=
  ⟨h.snd, h.soon, h.mu, h.chg, fun xs hx i k p q hi hp hq hu hr => by
    obtain ⟨m, hm⟩ := List.getElem?_of_mem hx
    exact h.clp m xs (List.getElem?_eq_some_iff.1 hm).1 hm i k p q hi hp hq hu hr⟩
theorem snd_start_p (hok : PostOk n net s0 t0 ch) : SndP net s0 t0 ch (tstart s0 t0) := snd_put (fun t => .inl rfl) hok.t0.1 Come.start
/-- From the first town on, all is found. -/
theorem spr_table {f : Int → Int} (hok : PostOk n net s0 t0 ch) (h : Spr net s0 t0 ch n (tstart s0 t0) s0 f) : TableOf net s0 t0 ch f := by
  have ht := hok.t0
  have h0 : tstart s0 t0 s0 = t0 := updI_self _ _ _
  have h1 := h.soon s0 (by rw [h0]; exact ht.1)
  rw [h0] at h1
  refine table_closed hok h.snd h1 fun u => ?_
  by_cases e : f u = tstart s0 t0 u
  · by_cases e2 : u = s0
    · subst e2
      exact h.clo
    · have h3 : f u = -1 := by rw [e]; exact updI_ne e2
      intro xs hx i k p q hi hp hq hu hr
      have h4 := hr.1
      rw [hu, h3] at h4
      omega
  · exact h.chg u e

/-! ### The last ride -/
/-- The stop of a town. -/
def AtP (xs : List T3) (town : Int) (k : Nat) : Prop := (∃ q, xs[k]? = some q ∧ q.a = town) ∧ ∀ (j : Nat) r, j < k → xs[j]? = some r → r.a ≠ town
/-- With this coach the letter does not come to a town. -/
def NoRide (f : Int → Int) (s0 ch town : Int) (xs : List T3) : Prop := ∀ k, AtP xs town k → ∀ q, xs[k]? = some q → q.b = f town → ∀ (i : Nat) p, i < k → xs[i]? = some p → ¬ Rdy f s0 ch p
/-- With this ride the letter comes to a town. -/
structure LastP (net : List (List T3)) (f : Int → Int) (s0 ch town : Int) (c i k : Nat) : Prop where
  ex : ∃ xs p q, net[c]? = some xs ∧ AtP xs town k ∧ xs[k]? = some q ∧ q.b = f town ∧ i < k ∧ xs[i]? = some p ∧ Rdy f s0 ch p ∧ ∀ (j : Nat) r, j < i → xs[j]? = some r → ¬ Rdy f s0 ch r
  no : ∀ (m : Nat) ys, m < c → net[m]? = some ys → NoRide f s0 ch town ys
theorem at_unique {xs : List T3} {town : Int} {k k' : Nat} (h : AtP xs town k) (h' : AtP xs town k') : k = k' := by
  obtain ⟨⟨q, h1, h2⟩, h3⟩ := h
  obtain ⟨⟨q', h1', h2'⟩, h3'⟩ := h'
  rcases Nat.lt_trichotomy k k' with e | e | e
  · exact absurd h2 (h3' k q e h1)
  · exact e
  · exact absurd h2' (h3 k' q' e h1')
theorem last_unique {f : Int → Int} {town : Int} {c i k c' i' k' : Nat} (h : LastP net f s0 ch town c i k) (h' : LastP net f s0 ch town c' i' k') : c = c' ∧ i = i' ∧ k = k' := by
  obtain ⟨⟨xs, p, q, h1, h2, h3, h4, h5, h6, h7, h8⟩, h9⟩ := h
  obtain ⟨⟨ys, p', q', g1, g2, g3, g4, g5, g6, g7, g8⟩, g9⟩ := h'
  obtain rfl : c = c' := by
    rcases Nat.lt_trichotomy c c' with e | e | e
    · exact absurd h7 (g9 c xs e h1 k h2 q h3 h4 i p h5 h6)
    · exact e
    · exact absurd g7 (h9 c' ys e g1 k' g2 q' g3 g4 i' p' g5 g6)
  obtain rfl : xs = ys := by rw [h1] at g1; exact Option.some.inj g1
  obtain rfl := at_unique h2 g2
  refine ⟨rfl, ?_, rfl⟩
  rcases Nat.lt_trichotomy i i' with e | e | e
  · exact absurd h7 (g8 i p e h6)
  · exact e
  · exact absurd g7 (h8 i' p' e g6)
theorem least_of {P : Nat → Prop} : ∀ (m : Nat), P m → ∃ k, P k ∧ k ≤ m ∧ ∀ j, j < k → ¬ P j := by
  intro m
  induction m using Nat.strongRecOn with
  | _ m ih =>
    intro hm
    by_cases h : ∃ j, j < m ∧ P j
    · obtain ⟨j, h1, h2⟩ := h
      obtain ⟨k, h3, h4, h5⟩ := ih j h1 h2
      exact ⟨k, h3, by omega, h5⟩
    · exact ⟨m, hm, Nat.le_refl _, fun j h1 h2 => h ⟨j, h1, h2⟩⟩
theorem at_stop (hok : NetOk n net) {xs : List T3} (hx : xs ∈ net) {k : Nat} {q : T3} (hq : xs[k]? = some q) : AtP xs q.a k :=
  ⟨⟨q, hq, rfl⟩, fun j r hj hr => (stop_lt hok hx hr hq hj).2⟩
theorem last_exists (hok : PostOk n net s0 t0 ch) {f : Int → Int} (hf : TableOf net s0 t0 ch f) {town : Int} (h0 : 0 ≤ f town) (hn : town ≠ s0) : ∃ c i k, LastP net f s0 ch town c i k := by
  have h1 : ∃ m : Nat, ∃ xs : List T3, net[m]? = some xs ∧ ¬ NoRide f s0 ch town xs := by
    rcases hf town with ⟨h2, _⟩ | ⟨_, h2⟩
    · omega
    · rcases fst_last hok h2 with ⟨h3, _⟩ | ⟨xs, i, k, p, q, d1, h3, hx, hp, hq, hi, hl, rfl, h4, _⟩
      · exact absurd h3 hn
      · obtain ⟨m, hm⟩ := List.getElem?_of_mem hx
        refine ⟨m, xs, hm, fun hno => hno k (at_stop hok.net hx hq) q hq h4 i p hi hp ?_⟩
        rcases hf p.a with ⟨_, h5⟩ | ⟨h5, h6⟩
        · exact absurd h3.1 (h5 _)
        · have := fst_unique h3 h6
          exact ⟨h5, by omega⟩
  obtain ⟨m, hm⟩ := h1
  obtain ⟨c, ⟨xs, h2, h3⟩, _, h4⟩ := least_of (P := fun m => ∃ xs : List T3, net[m]? = some xs ∧ ¬ NoRide f s0 ch town xs) m hm
  have h5 : ∃ (i k : Nat) (p q : T3), AtP xs town k ∧ xs[k]? = some q ∧ q.b = f town ∧ i < k ∧ xs[i]? = some p ∧ Rdy f s0 ch p := by
    apply Classical.byContradiction
    intro hno
    exact h3 fun k hk q hq hb i p hi hp hr => hno ⟨i, k, p, q, hk, hq, hb, hi, hp, hr⟩
  obtain ⟨i, k, p, q, hk, hq, hb, hi, hp, hr⟩ := h5
  obtain ⟨i', ⟨p', h6, h7⟩, h8, h9⟩ := least_of (P := fun j => ∃ r, xs[j]? = some r ∧ Rdy f s0 ch r) i ⟨p, hp, hr⟩
  refine ⟨c, i', k, ⟨xs, p', q, h2, hk, hq, hb, by omega, h6, h7, fun j r hj hr' hy => h9 j hj ⟨r, hr', hy⟩⟩, fun m' ys hm' hy => ?_⟩
  apply Classical.byContradiction
  intro hno
  exact h4 m' hm' ⟨ys, hy, hno⟩
/-- A ride. -/
abbrev RideP := T3
/-- The rides of a journey, the last one first. -/
inductive BackP (net : List (List T3)) (f : Int → Int) (s0 ch : Int) : Int → List T3 → Prop
  | here : BackP net f s0 ch s0 []
  | ride {town : Int} {c i k : Nat} {xs : List T3} {p : T3} {l : List T3} : town ≠ s0 → LastP net f s0 ch town c i k → net[c]? = some xs → xs[i]? = some p → BackP net f s0 ch p.a l → BackP net f s0 ch town (⟨c, i, k⟩ :: l)
theorem last_facts (hok : NetOk n net) {f : Int → Int} (hch : 0 ≤ ch) {town : Int} {c i k : Nat} (h : LastP net f s0 ch town c i k) {xs : List T3} (hx : net[c]? = some xs) {p : T3} (hp : xs[i]? = some p) :
    c < net.length ∧ i < k ∧ k < xs.length ∧ 0 ≤ p.a ∧ p.a < n ∧ 0 ≤ f p.a ∧ f p.a < f town := by
  obtain ⟨ys, p', q, h1, h2, h3, h4, h5, h6, h7, h8⟩ := h.ex
  obtain rfl : ys = xs := by rw [hx] at h1; exact (Option.some.inj h1).symm
  obtain rfl : p' = p := by rw [hp] at h6; exact (Option.some.inj h6).symm
  have hm := List.mem_of_getElem? hx
  have hb := stop_bd hok hm hp
  have hl := stop_lt hok hm hp h3 h5
  have hg := (lag_bd (s0 := s0) hch p'.a).1
  have hr := h7.2
  exact ⟨(List.getElem?_eq_some_iff.1 hx).1, h5, (List.getElem?_eq_some_iff.1 h3).1, hb.1, hb.2.1, h7.1, by omega⟩
theorem back_exists (hok : PostOk n net s0 t0 ch) {f : Int → Int} (hf : TableOf net s0 t0 ch f) : ∀ (m : Nat) (town : Int), 0 ≤ f town → f town ≤ m → ∃ l, BackP net f s0 ch town l ∧ (l.length : Int) ≤ f town := by
  intro m
  induction m using Nat.strongRecOn with
  | _ m ih =>
    intro town h0 hm
    by_cases e : town = s0
    · subst e
      exact ⟨[], BackP.here, by simpa using h0⟩
    · obtain ⟨c, i, k, hl⟩ := last_exists hok hf h0 e
      obtain ⟨xs, p, q, h1, h2, h3, h4, h5, h6, h7, h8⟩ := hl.ex
      have hfc := last_facts hok.net hok.ch.1 hl h1 h6
      obtain ⟨l, h9, h10⟩ := ih (f p.a).toNat (by omega) p.a h7.1 (by omega)
      exact ⟨_, BackP.ride e hl h1 h6 h9, by rw [List.length_cons]; omega⟩
theorem back_unique {f : Int → Int} {town : Int} {l : List T3} (h : BackP net f s0 ch town l) : ∀ {l' : List T3}, BackP net f s0 ch town l' → l = l' := by
  induction h with
  | here =>
    intro l' h'
    cases h' with
    | here => rfl
    | ride h1 => exact absurd rfl h1
  | ride h1 h2 h3 h4 h5 ih =>
    intro l' h'
    cases h' with
    | here => exact absurd rfl h1
    | ride g1 g2 g3 g4 g5 =>
      obtain ⟨rfl, rfl, rfl⟩ := last_unique h2 g2
      rw [h3] at g3
      obtain rfl := Option.some.inj g3
      rw [h4] at g4
      obtain rfl := Option.some.inj g4
      rw [ih g5]
end
end Go.Proofs.YtgjllminidlolaaGreatDoor
/- Plain mathematics of posts: the values of the times and of the rides. -/
set_option linter.unusedVariables false
namespace Go.Proofs.YtgjllminidlolaaGreatDoor

/-- What is asked about a letter. -/
def PostQ (n : Int) (net : List (List T3)) (s0 t0 ch : Int) : Prop := NetOk n net ∧ (0 ≤ s0 ∧ s0 < n) ∧ (0 ≤ t0 ∧ t0 ≤ 10000) ∧ 0 ≤ ch ∧ ch ≤ 300
theorem PostQ.ok {n : Int} {net : List (List T3)} {s0 t0 ch : Int} (h : PostQ n net s0 t0 ch) : PostOk n net s0 t0 ch := ⟨h.1, h.2.1, h.2.2.1, h.2.2.2.1, by have := h.2.2.2.2; omega⟩
open Classical in
/-- The earliest times. -/
noncomputable def tblV (net : List (List T3)) (s0 t0 ch : Int) : Int → Int := fun v => if h : ∃ d, IsFst net s0 t0 ch v d then Classical.choose h else -1
section
variable {n : Int} {net : List (List T3)} {s0 t0 ch : Int}
theorem tblV_yes {v d : Int} (h : IsFst net s0 t0 ch v d) : tblV net s0 t0 ch v = d := by
  unfold tblV
  rw [dif_pos ⟨d, h⟩]
  exact fst_unique (Classical.choose_spec (p := fun d => IsFst net s0 t0 ch v d) ⟨d, h⟩) h
theorem tblV_table (hok : PostOk n net s0 t0 ch) : TableOf net s0 t0 ch (tblV net s0 t0 ch) := fun v => by
  by_cases h : ∃ d, IsFst net s0 t0 ch v d
  · obtain ⟨d, hd⟩ := h
    rw [tblV_yes hd]
    have := come_bd hok hd.1
    have := hok.t0
    exact .inr ⟨by omega, hd⟩
  · refine .inl ⟨by unfold tblV; rw [dif_neg h], fun d hd => ?_⟩
    obtain ⟨d0, h0, _⟩ := fst_of hok hd
    exact h ⟨d0, h0⟩
theorem tblV_eq (hok : PostOk n net s0 t0 ch) {f : Int → Int} (h : TableOf net s0 t0 ch f) (v : Int) : f v = tblV net s0 t0 ch v := table_unique h (tblV_table hok) v
theorem table_bd (hok : PostOk n net s0 t0 ch) {f : Int → Int} (h : TableOf net s0 t0 ch f) (v : Int) : -1 ≤ f v ∧ f v ≤ 10000 := by
  rcases h v with ⟨h1, _⟩ | ⟨h1, h2⟩
  · omega
  · have := come_bd hok h2.1
    omega
theorem snd_bd (hok : PostOk n net s0 t0 ch) {f : Int → Int} (h : SndP net s0 t0 ch f) (v : Int) : -1 ≤ f v ∧ f v ≤ 10000 ∧ (0 ≤ f v → 0 ≤ v ∧ v < n) := by
  rcases h v with h1 | ⟨h1, h2⟩
  · exact ⟨by omega, by omega, fun h => by omega⟩
  · have := come_bd hok h2
    exact ⟨by omega, by omega, fun _ => ⟨this.1, this.2.1⟩⟩
end
open Classical in
/-- The time at which a letter comes, or -1. -/
noncomputable def postV (n : Int) (net : List (List T3)) (s0 to t0 ch : Int) : Int := if PostQ n net s0 t0 ch ∧ 0 ≤ to ∧ to < n then tblV net s0 t0 ch to else -1
section
variable {n : Int} {net : List (List T3)} {s0 to t0 ch : Int}
theorem postV_yes (h : PostQ n net s0 t0 ch) (ht : 0 ≤ to ∧ to < n) : postV n net s0 to t0 ch = tblV net s0 t0 ch to := by unfold postV; rw [if_pos ⟨h, ht⟩]
theorem postV_no (h : ¬ (PostQ n net s0 t0 ch ∧ 0 ≤ to ∧ to < n)) : postV n net s0 to t0 ch = -1 := by unfold postV; rw [if_neg h]
theorem postV_bd (n : Int) (net : List (List T3)) (s0 to t0 ch : Int) : -1 ≤ postV n net s0 to t0 ch ∧ postV n net s0 to t0 ch ≤ 10000 := by
  by_cases h : PostQ n net s0 t0 ch ∧ 0 ≤ to ∧ to < n
  · rw [postV_yes h.1 h.2]
    exact table_bd h.1.ok (tblV_table h.1.ok) to
  · rw [postV_no h]; omega
theorem postV_pos (h : 0 ≤ postV n net s0 to t0 ch) : PostQ n net s0 t0 ch ∧ (0 ≤ to ∧ to < n) ∧ postV n net s0 to t0 ch = tblV net s0 t0 ch to := by
  by_cases h1 : PostQ n net s0 t0 ch ∧ 0 ≤ to ∧ to < n
  · exact ⟨h1.1, h1.2, postV_yes h1.1 h1.2⟩
  · rw [postV_no h1] at h; omega
end
open Classical in
/-- The rides of a letter, the last one first. -/
noncomputable def backV (n : Int) (net : List (List T3)) (s0 to t0 ch : Int) : List T3 := if h : 0 ≤ postV n net s0 to t0 ch ∧ ∃ l, BackP net (tblV net s0 t0 ch) s0 ch to l then Classical.choose h.2 else []
section
variable {n : Int} {net : List (List T3)} {s0 to t0 ch : Int}
theorem backV_no (h : postV n net s0 to t0 ch < 0) : backV n net s0 to t0 ch = [] := by unfold backV; rw [dif_neg (fun h1 => by omega)]
theorem backV_yes (h : 0 ≤ postV n net s0 to t0 ch) : BackP net (tblV net s0 t0 ch) s0 ch to (backV n net s0 to t0 ch) := by
  obtain ⟨hq, ht, hv⟩ := postV_pos h
  have hn := hq.1.1
  obtain ⟨m, rfl⟩ : ∃ m : Nat, n = m := ⟨n.toNat, by omega⟩
  obtain ⟨l, hl, _⟩ := back_exists hq.ok (tblV_table hq.ok) (tblV net s0 t0 ch to).toNat to (by omega) (by omega)
  unfold backV
  rw [dif_pos ⟨h, l, hl⟩]
  exact Classical.choose_spec (p := fun l => BackP net (tblV net s0 t0 ch) s0 ch to l) ⟨l, hl⟩
theorem backV_eq {l : List T3} (h : 0 ≤ postV n net s0 to t0 ch) (hl : BackP net (tblV net s0 t0 ch) s0 ch to l) : backV n net s0 to t0 ch = l := back_unique (backV_yes h) hl
end
/-- The rides of a letter. -/
noncomputable def rideV (n : Int) (net : List (List T3)) (s0 to t0 ch : Int) : List T3 := (backV n net s0 to t0 ch).reverse
section
variable {n : Nat} {net : List (List T3)} {s0 t0 ch : Int}
/-- The rides back: few, and each one of the net. -/
theorem back_facts (hok : PostOk n net s0 t0 ch) {f : Int → Int} (hf : TableOf net s0 t0 ch f) {to : Int} {l : List T3} (h : BackP net f s0 ch to l) : 0 ≤ f to → (l.length ≤ rankP net s0 t0 ch n (f to)) ∧ ∀ r ∈ l, 0 ≤ r.a ∧ r.a < 6 ∧ 0 ≤ r.b ∧ r.b < r.c ∧ r.c < 8 := by
  induction h with
  | here => intro h0; exact ⟨Nat.zero_le _, fun r hr => by cases hr⟩
  | @ride town c i k xs p l h1 h2 h3 h4 h5 ih =>
    intro h0
    have hl := last_facts hok.net hok.ch.1 h2 h3 h4
    obtain ⟨g1, g2⟩ := ih hl.2.2.2.2.2.1
    have hfst : IsFst net s0 t0 ch p.a (f p.a) := by
      rcases hf p.a with ⟨e, _⟩ | ⟨_, e⟩
      · omega
      · exact e
    have hr := rankP_lt (n := n) hok hfst hl.2.2.2.2.2.2
    have hn := hok.net.2.2.1
    have hs := (hok.net.2.2.2 xs (List.mem_of_getElem? h3)).2.2.2.1
    refine ⟨by rw [List.length_cons]; omega, fun r hr => ?_⟩
    rcases List.mem_cons.1 hr with rfl | hr
    · dsimp only; omega
    · exact g2 r hr
theorem rideV_facts {to : Int} : (rideV n net s0 to t0 ch).length ≤ 8 ∧ ∀ r ∈ rideV n net s0 to t0 ch, 0 ≤ r.a ∧ r.a < 6 ∧ 0 ≤ r.b ∧ r.b < r.c ∧ r.c < 8 := by
  unfold rideV
  by_cases h : 0 ≤ postV n net s0 to t0 ch
  · obtain ⟨hq, ht, hv⟩ := postV_pos h
    have hf := tblV_table hq.ok
    have hv0 : 0 ≤ tblV net s0 t0 ch to := by omega
    have h1 := back_facts hq.ok hf (backV_yes h) hv0
    have h2 : IsFst net s0 t0 ch to (tblV net s0 t0 ch to) := by
      rcases hf to with ⟨e, _⟩ | ⟨_, e⟩
      · omega
      · exact e
    have h3 := rankP_le hq.ok h2
    have h4 := hq.1.2.1
    rw [List.length_reverse]
    exact ⟨by omega, fun r hr => h1.2 r (List.mem_reverse.1 hr)⟩
  · rw [backV_no (by omega)]
    exact ⟨by simp, fun r hr => by simp at hr⟩
end
end Go.Proofs.YtgjllminidlolaaGreatDoor
/- Plain mathematics of timetables: how they are checked, stop by stop; where the first one lies that is asked for. -/
set_option linter.unusedVariables false
namespace Go.Proofs.YtgjllminidlolaaGreatDoor

/-- Where the first one lies that is asked for, or -1. -/
def IsFstI (Q : T3 → Prop) (xs : List T3) (v : Int) : Prop := (v = -1 ∧ ∀ (i : Nat) r, xs[i]? = some r → ¬ Q r) ∨ ∃ (j : Nat) (p : T3), v = j ∧ xs[j]? = some p ∧ Q p ∧ ∀ (i : Nat) (r : T3), i < j → xs[i]? = some r → ¬ Q r
def NotYet (Q : T3 → Prop) (xs : List T3) (k : Nat) : Prop := ∀ (i : Nat) r, i < k → xs[i]? = some r → ¬ Q r
theorem notYet_nil (Q : T3 → Prop) (xs : List T3) : NotYet Q xs 0 := fun i r h => absurd h (by omega)
theorem notYet_next {Q : T3 → Prop} {xs : List T3} {k : Nat} {p : T3} (h : NotYet Q xs k) (hp : xs[k]? = some p) (hn : ¬ Q p) : NotYet Q xs (k + 1) := fun i r hi hr => by
  by_cases e : i = k
  · subst e
    rw [hp] at hr
    injection hr with hr
    subst hr
    exact hn
  · exact h i r (by omega) hr
def OkS (n : Int) (p : T3) : Prop := 0 ≤ p.a ∧ p.a < n ∧ 0 ≤ p.b ∧ p.b ≤ p.c ∧ p.c ≤ 10000
/-- The first so many stops are in order. -/
def SPre (n : Int) (xs : List T3) (k : Nat) : Prop := (∀ (i : Nat) p, i < k → xs[i]? = some p → OkS n p) ∧ ∀ (i j : Nat) p q, i < j → j < k → xs[i]? = some p → xs[j]? = some q → p.c < q.b ∧ p.a ≠ q.a
theorem stops_iff (n : Int) (xs : List T3) : StopsOk n xs ↔ (1 ≤ n ∧ n ≤ 8) ∧ (2 ≤ xs.length ∧ xs.length ≤ 8) ∧ SPre n xs xs.length := by
  constructor
  · intro ⟨h1, h2, h3, h4, h5, h6⟩
    exact ⟨⟨h1, h2⟩, ⟨h3, h4⟩, fun i p _ hp => h5 p (List.mem_of_getElem? hp), fun i j p q hij _ hp hq => h6 i j p q hij hp hq⟩
  · intro ⟨⟨h1, h2⟩, ⟨h3, h4⟩, h5, h6⟩
    refine ⟨h1, h2, h3, h4, fun p hp => ?_, fun i j p q hij hp hq => h6 i j p q hij (List.getElem?_eq_some_iff.1 hq).1 hp hq⟩
    obtain ⟨i, hi⟩ := List.getElem?_of_mem hp
    exact h5 i p (List.getElem?_eq_some_iff.1 hi).1 hi
theorem spre_nil (n : Int) (xs : List T3) : SPre n xs 0 := ⟨fun i p h => absurd h (by omega), fun i j p q _ h => absurd h (by omega)⟩
/-- When the coach left last. -/
def lastC (xs : List T3) : Nat → Int
  | 0 => -1
  | k + 1 => ((xs[k]?).map T3.c).getD (-1)
theorem lastC_next {xs : List T3} {k : Nat} {p : T3} (hp : xs[k]? = some p) : lastC xs (k + 1) = p.c := by
  rw [lastC, hp]
  rfl
theorem spre_last {n : Int} {xs : List T3} {k : Nat} (h : SPre n xs k) {i : Nat} {p : T3} (hi : i < k) (hp : xs[i]? = some p) (hk : k ≤ xs.length) : p.c ≤ lastC xs k := by
  obtain ⟨j, rfl⟩ : ∃ j, k = j + 1 := ⟨k - 1, by omega⟩
  have hq : xs[j]? = some xs[j] := List.getElem?_eq_getElem (by omega)
  rw [lastC_next hq]
  by_cases e : i = j
  · subst e
    rw [hq] at hp
    injection hp with hp
    subst hp
    exact Int.le_refl _
  · have h1 := (h.2 i j p _ (by omega) (by omega) hp hq).1
    have h2 := h.1 j _ (by omega) hq
    unfold OkS at h2
    omega
theorem lastC_bd {n : Int} {xs : List T3} {k : Nat} (h : SPre n xs k) (hk : k ≤ xs.length) : -1 ≤ lastC xs k ∧ lastC xs k ≤ 10000 := by
  cases k with
  | zero => rw [lastC]; omega
  | succ j =>
    have hj : xs[j]? = some (xs[j]'(by omega)) := List.getElem?_eq_getElem (by omega)
    rw [lastC_next hj]
    have := h.1 j _ (by omega) hj
    unfold OkS at this
    omega
theorem spre_next {n : Int} {xs : List T3} {k : Nat} {p : T3} (h : SPre n xs k) (hp : xs[k]? = some p) (ho : OkS n p) (hl : lastC xs k < p.b) (ht : NotYet (fun q => q.a = p.a) xs k) : SPre n xs (k + 1) := by
  have hk := (List.getElem?_eq_some_iff.1 hp).1
  refine ⟨fun i q hi hq => ?_, fun i j q r hij hj hq hr => ?_⟩
  · by_cases e : i = k
    · subst e
      rw [hp] at hq
      injection hq with hq
      subst hq
      exact ho
    · exact h.1 i q (by omega) hq
  · by_cases e : j = k
    · subst e
      rw [hp] at hr
      injection hr with hr
      subst hr
      have h1 := spre_last h hij hq (by omega)
      exact ⟨by omega, ht i q hij hq⟩
    · exact h.2 i j q r hij (by omega) hq hr
theorem stops_bad {n : Int} {xs : List T3} {k : Nat} {p : T3} (hp : xs[k]? = some p) (h : ¬ OkS n p) : ¬ StopsOk n xs := fun hs => h (hs.2.2.2.2.1 p (List.mem_of_getElem? hp))
theorem stops_late {n : Int} {xs : List T3} {k : Nat} {p : T3} (hp : xs[k]? = some p) (h : p.b ≤ lastC xs k) : ¬ StopsOk n xs := fun hs => by
  have h0 := hs.2.2.2.2.1 p (List.mem_of_getElem? hp)
  cases k with
  | zero => rw [lastC] at h; omega
  | succ j =>
    have hj : xs[j]? = some (xs[j]'(by have := (List.getElem?_eq_some_iff.1 hp).1; omega)) := List.getElem?_eq_getElem (by have := (List.getElem?_eq_some_iff.1 hp).1; omega)
    rw [lastC_next hj] at h
    have := (hs.2.2.2.2.2 j (j + 1) _ p (by omega) hj hp).1
    omega
theorem stops_twin {n : Int} {xs : List T3} {i k : Nat} {p q : T3} (hi : i < k) (hq : xs[i]? = some q) (hp : xs[k]? = some p) (h : q.a = p.a) : ¬ StopsOk n xs := fun hs => (hs.2.2.2.2.2 i k q p hi hq hp).2 h
/-- The towns that have been seen, as bits. -/
def MaskP (m : Nat) (xs : List T3) (k : Nat) : Prop := m < 256 ∧ ∀ t : Nat, t < 8 → (m.testBit t = true ↔ ∃ (i : Nat) (q : T3), i < k ∧ xs[i]? = some q ∧ q.a = t)
theorem mask_nil (xs : List T3) : MaskP 0 xs 0 := ⟨by omega, fun t _ => ⟨fun h => by simp at h, fun ⟨i, q, h, _⟩ => absurd h (by omega)⟩⟩
theorem mask_and (m a : Nat) : m &&& 2 ^ a ≠ 0 ↔ m.testBit a = true := by
  constructor
  · intro h
    cases hb : m.testBit a with
    | true => rfl
    | false =>
      refine absurd (Nat.eq_of_testBit_eq fun i => ?_) h
      rw [Nat.testBit_and, Nat.testBit_two_pow, Nat.zero_testBit]
      by_cases e : a = i
      · subst e
        rw [hb]
        rfl
      · simp [e]
  · intro h h0
    have h1 : (m &&& 2 ^ a).testBit a = true := by rw [Nat.testBit_and, Nat.testBit_two_pow, h]; simp
    rw [h0, Nat.zero_testBit] at h1
    cases h1
theorem mask_next {m : Nat} {xs : List T3} {k a : Nat} {p : T3} (h : MaskP m xs k) (hp : xs[k]? = some p) (ha : p.a = a) (h8 : a < 8) : MaskP (m ||| 2 ^ a) xs (k + 1) := by
  refine ⟨?_, fun t ht => ?_⟩
  · have h1 : 2 ^ a < 2 ^ 8 := Nat.pow_lt_pow_right (by omega) h8
    exact Nat.or_lt_two_pow (n := 8) h.1 h1
  · rw [Nat.testBit_or, Nat.testBit_two_pow, Bool.or_eq_true, h.2 t ht]
    constructor
    · rintro (⟨i, q, h1, h2, h3⟩ | h1)
      · exact ⟨i, q, by omega, h2, h3⟩
      · have h1 : a = t := by simpa using h1
        exact ⟨k, p, by omega, hp, by omega⟩
    · rintro ⟨i, q, h1, h2, h3⟩
      by_cases e : i = k
      · subst e
        rw [hp] at h2
        injection h2 with h2
        subst h2
        right
        simp only [decide_eq_true_eq]
        omega
      · exact .inl ⟨i, q, by omega, h2, h3⟩
theorem mask_seen {m : Nat} {xs : List T3} {k a : Nat} (h : MaskP m xs k) (h8 : a < 8) : m &&& 2 ^ a = 0 ↔ NotYet (fun q => q.a = a) xs k := by
  constructor
  · intro h0 i q hi hq he
    exact (mask_and m a).2 ((h.2 a h8).2 ⟨i, q, hi, hq, he⟩) h0
  · intro h1
    refine Decidable.byContradiction fun h0 => ?_
    obtain ⟨i, q, h2, h3, h4⟩ := (h.2 a h8).1 ((mask_and m a).1 h0)
    exact h1 i q h2 h3 h4
end Go.Proofs.YtgjllminidlolaaGreatDoor
/- What a line of a script does. No program in sight. -/
set_option linter.unusedVariables false
namespace Go.Proofs.YtgjllminidlolaaGreatDoor

/-- The state of a script. -/
structure LSt where
  roads : List T3
  net : List (List T3)
  list : List B3
def roadW : List UInt8 := [114, 111, 97, 100]
def closeW : List UInt8 := [99, 108, 111, 115, 101]
def farW : List UInt8 := [102, 97, 114]
def wayW : List UInt8 := [119, 97, 121]
def coachW : List UInt8 := [99, 111, 97, 99, 104]
def coachesW : List UInt8 := [99, 111, 97, 99, 104, 101, 115]
def postW : List UInt8 := [112, 111, 115, 116]
def rideW : List UInt8 := [114, 105, 100, 101]
def whatL : List UInt8 := [119, 104, 97, 116]
def noL : List UInt8 := [110, 111]
/-- A number in decimals. -/
def decI (x : Int) : List UInt8 := Lib.decDigits x.toNat
def digU (x : Int) : UInt8 := UInt8.ofNat (48 + x.toNat)
/-- A time on the clock. -/
def clockL (t : Int) : List UInt8 := [digU (t % 1440 / 60 / 10), digU (t % 1440 / 60 % 10), 46, digU (t % 1440 % 60 / 10), digU (t % 1440 % 60 % 10)]
def stopL (p : T3) : List UInt8 := digU p.a :: 58 :: (clockL p.b ++ 45 :: clockL p.c)
def stopsL (xs : List T3) : List UInt8 := Lib.join (xs.map stopL) [32]
def rideL (r : T3) : List UInt8 := decI r.a ++ 58 :: (decI r.b ++ 45 :: decI r.c)
def ridesL (rs : List T3) : List UInt8 := Lib.join (rs.map rideL) [32]
def tripL : List Int → List T3
  | a :: b :: c :: r => ⟨a, b, c⟩ :: tripL r
  | _ => []
/-- What a command answers: nothing where the line is no command, no lines where it does not go. -/
abbrev Ans := Option (LSt × Option (List (List UInt8)))
section
open Classical
noncomputable def roadC (s : LSt) : List Int → Ans
  | [a, b, c] => some (if RoadOk 6 (s.roads ++ [⟨a, b, c⟩]) then ({ s with roads := s.roads ++ [⟨a, b, c⟩] }, some [okL]) else (s, none))
  | _ => none
noncomputable def closeC (s : LSt) : List Int → Ans
  | [a, b] => some (if RoadOk 6 s.roads ∧ 0 ≤ fndR s.roads a b then ({ s with roads := s.roads.eraseIdx (fndR s.roads a b).toNat }, some [okL]) else (s, none))
  | _ => none
noncomputable def farC (s : LSt) : List Int → Ans
  | [a, b] => some (s, if 0 ≤ farV 6 s.roads a b then some [decI (farV 6 s.roads a b)] else none)
  | _ => none
noncomputable def wayC (s : LSt) : List Int → Ans
  | [a, b] => some (s, if 0 ≤ farV 6 s.roads a b then some [spacedL (wayV 6 s.roads a b)] else none)
  | _ => none
noncomputable def coachC (s : LSt) (ns : List Int) : Ans :=
  if 0 < ns.length ∧ ns.length % 3 = 0 then some (if NetOk 6 (s.net ++ [tripL ns]) then ({ s with net := s.net ++ [tripL ns] }, some [okL]) else (s, none)) else none
def coachesC (s : LSt) : List Int → Ans
  | [] => some (s, some (s.net.map stopsL))
  | _ => none
noncomputable def postC (s : LSt) : List Int → Ans
  | [a, b, c, d] => some (s, if 0 ≤ postV 6 s.net a b c d then some [decI (postV 6 s.net a b c d)] else none)
  | _ => none
noncomputable def rideC (s : LSt) : List Int → Ans
  | [a, b, c, d] => some (s, if 0 ≤ postV 6 s.net a b c d then some [ridesL (rideV 6 s.net a b c d)] else none)
  | _ => none
noncomputable def seatC (s : LSt) (z : Bool) : List Int → Ans
  | [a, b] => some (if BookOk 5 (s.list ++ [⟨a, b, z⟩]) then ({ s with list := s.list ++ [⟨a, b, z⟩] }, some [okL]) else (s, none))
  | _ => none
noncomputable def seatsC (s : LSt) : List Int → Ans
  | [] => some (s, if BookOk 5 s.list then some [spacedL (plan s.list 5)] else none)
  | _ => none
/-- What a command does. -/
noncomputable def cmdC (s : LSt) (wd : List UInt8) (ns : List Int) : Ans :=
  if wd = roadW then roadC s ns else if wd = closeW then closeC s ns else if wd = farW then farC s ns else if wd = wayW then wayC s ns
  else if wd = coachW then coachC s ns else if wd = coachesW then coachesC s ns else if wd = postW then postC s ns else if wd = rideW then rideC s ns
  else if wd = kindL true then seatC s true ns else if wd = kindL false then seatC s false ns else if wd = seatsL then seatsC s ns else none
end
def ansSt (s : LSt) : Ans → LSt
  | none => s
  | some (s', _) => s'
def ansOut : Ans → List (List UInt8)
  | none => [whatL]
  | some (_, none) => [noL]
  | some (_, some o) => o
noncomputable def ansL (s : LSt) (l : List UInt8) : Ans :=
  match cutL 32 l with
  | [] => none
  | wd :: ws => cmdC s wd (ws.map numL)
/-- The state behind a line, and what it tells. -/
noncomputable def stepS (s : LSt) (l : List UInt8) : LSt := ansSt s (ansL s l)
noncomputable def stepO (s : LSt) (l : List UInt8) : List (List UInt8) := ansOut (ansL s l)
/-- The state behind so many lines. -/
noncomputable def scrS (ls : List (List UInt8)) : Nat → LSt
  | 0 => ⟨[], [], []⟩
  | j + 1 => match ls[j]? with
    | some l => stepS (scrS ls j) l
    | none => scrS ls j
noncomputable def scrO (ls : List (List UInt8)) (j : Nat) : List (List UInt8) :=
  match ls[j]? with
  | some l => stepO (scrS ls j) l
  | none => []
theorem scrS_next {ls : List (List UInt8)} {j : Nat} {l : List UInt8} (h : ls[j]? = some l) : scrS ls (j + 1) = stepS (scrS ls j) l := by
  rw [scrS, h]
theorem scrO_at {ls : List (List UInt8)} {j : Nat} {l : List UInt8} (h : ls[j]? = some l) : scrO ls j = stepO (scrS ls j) l := by
  rw [scrO, h]
/-- What a state holds is valid. -/
def StOk (s : LSt) : Prop := RoadOk 6 s.roads ∧ NetOk 6 s.net ∧ BookOk 5 s.list
theorem stOk_nil : StOk ⟨[], [], []⟩ := by
  refine ⟨⟨by omega, by omega, by simp, fun p hp => (by cases hp), fun i j p q _ h => (by cases h)⟩, ⟨by omega, by omega, by simp, fun p hp => (by cases hp)⟩, by omega, by omega, by simp, fun p hp => (by cases hp), fun leg _ => by simp [taken]⟩
theorem road_erase {n : Int} {xs : List T3} (h : RoadOk n xs) (k : Nat) : RoadOk n (xs.eraseIdx k) := by
  obtain ⟨h1, h2, h3, h4, h5⟩ := h
  refine ⟨h1, h2, Nat.le_trans (List.length_eraseIdx_le _ _) h3, fun p hp => h4 p (List.mem_of_mem_eraseIdx hp), fun i j p q hij hp hq => ?_⟩
  rw [List.getElem?_eraseIdx] at hp hq
  split at hp <;> split at hq
  · exact h5 i j p q hij hp hq
  · exact h5 i (j + 1) p q (by omega) hp hq
  · omega
  · exact h5 (i + 1) (j + 1) p q (by omega) hp hq
theorem cmd_ok {s : LSt} (h : StOk s) (wd : List UInt8) (ns : List Int) : StOk (ansSt s (cmdC s wd ns)) := by
  obtain ⟨h1, h2, h3⟩ := h
  have h0 : StOk s := ⟨h1, h2, h3⟩
  unfold cmdC
  repeat' split
  · unfold roadC; split
    · dsimp only [ansSt]; split
      · exact ⟨by assumption, h2, h3⟩
      · exact h0
    · exact h0
  · unfold closeC; split
    · dsimp only [ansSt]; split
      · exact ⟨road_erase h1 _, h2, h3⟩
      · exact h0
    · exact h0
  · unfold farC; split <;> exact h0
  · unfold wayC; split <;> exact h0
  · unfold coachC; split
    · dsimp only [ansSt]; split
      · exact ⟨h1, by assumption, h3⟩
      · exact h0
    · exact h0
  · unfold coachesC; split <;> exact h0
  · unfold postC; split <;> exact h0
  · unfold rideC; split <;> exact h0
  · unfold seatC; split
    · dsimp only [ansSt]; split
      · exact ⟨h1, h2, by assumption⟩
      · exact h0
    · exact h0
  · unfold seatC; split
    · dsimp only [ansSt]; split
      · exact ⟨h1, h2, by assumption⟩
      · exact h0
    · exact h0
  · unfold seatsC; split <;> exact h0
  · exact h0
theorem step_ok {s : LSt} (h : StOk s) (l : List UInt8) : StOk (stepS s l) := by
  unfold stepS ansL
  split
  · exact h
  · exact cmd_ok h _ _
theorem scr_ok (ls : List (List UInt8)) : ∀ j, StOk (scrS ls j)
  | 0 => stOk_nil
  | j + 1 => by
    rw [scrS]
    split
    · exact step_ok (scr_ok ls j) _
    · exact scr_ok ls j
end Go.Proofs.YtgjllminidlolaaGreatDoor
