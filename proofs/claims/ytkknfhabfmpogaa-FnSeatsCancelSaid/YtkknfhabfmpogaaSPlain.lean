/- Plain mathematics of bookings: what is taken on a leg, sets of legs. -/
import Derived.Test.YtkknfhabfmpogaaPlain
set_option linter.unusedVariables false
namespace Go.Proofs.Ytkknfhabfmpogaa

/-- A booking: from, to, inside. -/
structure B3 where
  a : Int
  b : Int
  c : Bool
deriving DecidableEq, Inhabited
/-- Bookings of a kind on a leg. -/
def taken : List B3 → Int → Bool → Int
  | [], _, _ => 0
  | p :: xs, leg, k => (if p.c = k ∧ p.a ≤ leg ∧ leg < p.b then 1 else 0) + taken xs leg k
def OkB (n : Int) (p : B3) : Prop := 0 ≤ p.a ∧ p.a < p.b ∧ p.b ≤ n
/-- Bookings of a coach of n legs. -/
def BookOk (n : Int) (xs : List B3) : Prop := 1 ≤ n ∧ n ≤ 7 ∧ xs.length ≤ 16 ∧ (∀ p ∈ xs, OkB n p) ∧ ∀ leg : Nat, (leg : Int) < n → taken xs leg true ≤ 4 ∧ taken xs leg false ≤ 6
theorem taken_append (xs ys : List B3) (leg : Int) (k : Bool) : taken (xs ++ ys) leg k = taken xs leg k + taken ys leg k := by
  induction xs with
  | nil => simp [taken]
  | cons p xs ih => simp only [List.cons_append, taken, ih]; omega
theorem taken_next {xs : List B3} {j : Nat} {p : B3} (leg : Int) (k : Bool) (h : xs[j]? = some p) : taken (xs.take (j + 1)) leg k = taken (xs.take j) leg k + if p.c = k ∧ p.a ≤ leg ∧ leg < p.b then 1 else 0 := by
  rw [take_next h, taken_append]; simp [taken]
theorem taken_bd (xs : List B3) (leg : Int) (k : Bool) : 0 ≤ taken xs leg k ∧ taken xs leg k ≤ xs.length := by
  induction xs with
  | nil => simp [taken]
  | cons p xs ih =>
    simp only [taken, List.length_cons]
    split <;> omega
theorem taken_sub {xs ys : List B3} (hs : ys.Sublist xs) (leg : Int) (k : Bool) : taken ys leg k ≤ taken xs leg k := by
  induction hs with
  | slnil => exact Int.le_refl _
  | cons p h ih => simp only [taken]; split <;> omega
  | cons_cons p h ih => simp only [taken]; omega
theorem taken_perm {xs ys : List B3} (h : ys.Perm xs) (leg : Int) (k : Bool) : taken ys leg k = taken xs leg k := by
  induction h with
  | nil => rfl
  | cons p h ih => simp only [taken, ih]
  | swap p q l => simp only [taken]; omega
  | trans _ _ h1 h2 => rw [h1, h2]
theorem book_sub {n : Int} {xs ys : List B3} (h : BookOk n xs) (hs : ys.Sublist xs) : BookOk n ys := by
  obtain ⟨h1, h2, h3, h4, h5⟩ := h
  refine ⟨h1, h2, Nat.le_trans hs.length_le h3, fun p hp => h4 p (hs.subset hp), fun leg hl => ?_⟩
  have a := taken_sub hs leg true
  have b := taken_sub hs leg false
  have := h5 leg hl
  omega
theorem book_perm {n : Int} {xs ys : List B3} (h : BookOk n xs) (hs : ys.Perm xs) : BookOk n ys := by
  obtain ⟨h1, h2, h3, h4, h5⟩ := h
  refine ⟨h1, h2, by rw [hs.length_eq]; exact h3, fun p hp => h4 p (hs.mem_iff.1 hp), fun leg hl => ?_⟩
  rw [taken_perm hs, taken_perm hs]
  exact h5 leg hl
theorem book_not {n : Int} {xs : List B3} {k : Nat} {p : B3} (h : xs[k]? = some p) (hn : ¬ OkB n p) : ¬ BookOk n xs := fun hB => hn (hB.2.2.2.1 _ (List.mem_of_getElem? h))
theorem book_leg {n : Int} {xs : List B3} {k : Nat} (hk : (k : Int) < n) (hl : ¬ (taken xs k true ≤ 4 ∧ taken xs k false ≤ 6)) : ¬ BookOk n xs := fun hB => hl (hB.2.2.2.2 k hk)
theorem allB_next {n : Int} {xs : List B3} {k : Nat} {p : B3} (h : xs[k]? = some p) (ha : ∀ p ∈ xs.take k, OkB n p) (hn : OkB n p) : ∀ p ∈ xs.take (k + 1), OkB n p := by
  intro q hq
  rw [take_next h] at hq
  rcases List.mem_append.1 hq with hq | hq
  · exact ha q hq
  · rw [List.mem_singleton.1 hq]; exact hn

/-! ### Sets of legs as numbers -/
/-- The legs from f to t, as bits. -/
def legs (f t : Nat) : Nat := 2 ^ t - 2 ^ f
theorem legs_one (k : Nat) : legs k (k + 1) = 2 ^ k := by
  unfold legs
  rw [Nat.pow_succ]
  omega
/-- Two stretches of at most seven legs meet in their bits just where they meet. -/
theorem legs_meet : ∀ f t g u : Fin 8, f.val ≤ t.val → g.val ≤ u.val → ((legs f.val t.val &&& legs g.val u.val ≠ 0) ↔ (f.val < u.val ∧ g.val < t.val ∧ f.val < t.val ∧ g.val < u.val)) := by
  decide
end Go.Proofs.Ytkknfhabfmpogaa
