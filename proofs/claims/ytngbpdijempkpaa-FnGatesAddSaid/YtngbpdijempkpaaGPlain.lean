/- Plain mathematics of gates and tolls. -/
import Derived.Test.YtngbpdijempkpaaPlain
set_option linter.unusedVariables false
namespace Go.Proofs.Ytngbpdijempkpaa

/-- The mile of the gate ahead of place i, or -1. -/
def lastM (xs : List T3) : Nat → Int
  | 0 => -1
  | i + 1 => match xs[i]? with | some p => p.a | none => -1
def GOk (xs : List T3) (i : Nat) (p : T3) : Prop := 0 ≤ p.a ∧ lastM xs i < p.a ∧ p.a ≤ 999 ∧ 0 ≤ p.b ∧ p.b ≤ 3 ∧ 1 ≤ p.c ∧ p.c ≤ 99
/-- A list of gates: a is the mile, b the trust, c the toll. -/
def GatesOk (xs : List T3) : Prop := xs.length ≤ 10 ∧ ∀ i p, xs[i]? = some p → GOk xs i p
theorem lastM_next {xs : List T3} {k : Nat} {p : T3} (h : xs[k]? = some p) : lastM xs (k + 1) = p.a := by simp [lastM, h]
theorem gok_next {xs : List T3} {k : Nat} {x y z : Int} (h : xs[k]? = some ⟨x, y, z⟩) (ha : ∀ i p, i < k → xs[i]? = some p → GOk xs i p) (hn : 0 ≤ x ∧ lastM xs k < x ∧ x ≤ 999 ∧ 0 ≤ y ∧ y ≤ 3 ∧ 1 ≤ z ∧ z ≤ 99) :
    ∀ i p, i < k + 1 → xs[i]? = some p → GOk xs i p := fun i p hi hp => by
  by_cases e : i = k
  · subst e
    rw [h] at hp
    injection hp with hp
    subst hp
    exact hn
  · exact ha i p (by omega) hp
theorem gates_not {xs : List T3} {k : Nat} {x y z : Int} (h : xs[k]? = some ⟨x, y, z⟩) (hn : ¬ (0 ≤ x ∧ lastM xs k < x ∧ x ≤ 999 ∧ 0 ≤ y ∧ y ≤ 3 ∧ 1 ≤ z ∧ z ≤ 99)) : ¬ GatesOk xs := fun hG => hn (hG.2 k _ h)
theorem gates_all {xs : List T3} {n : Nat} (hl : xs.length = n) (hn : n ≤ 10) (ha : ∀ i p, i < n → xs[i]? = some p → GOk xs i p) : GatesOk xs :=
  ⟨by omega, fun i p hp => ha i p (by have := (List.getElem?_eq_some_iff.1 hp).1; omega) hp⟩

/-- The indexes of the gates that meet a test, from b on. -/
def idxFrom (f : T3 → Bool) : Nat → List T3 → List Int
  | _, [] => []
  | b, p :: xs => if f p then (b : Int) :: idxFrom f (b + 1) xs else idxFrom f (b + 1) xs
def idxIf (f : T3 → Bool) (xs : List T3) : List Int := idxFrom f 0 xs
theorem idxFrom_append (f : T3 → Bool) (xs ys : List T3) (b : Nat) : idxFrom f b (xs ++ ys) = idxFrom f b xs ++ idxFrom f (b + xs.length) ys := by
  induction xs generalizing b with
  | nil => simp [idxFrom]
  | cons p xs ih =>
    simp only [List.cons_append, idxFrom, ih, List.length_cons]
    have : b + 1 + xs.length = b + (xs.length + 1) := by omega
    rw [this]
    split <;> simp
theorem idxIf_next {f : T3 → Bool} {xs : List T3} {k : Nat} {p : T3} (h : xs[k]? = some p) : idxIf f (xs.take (k + 1)) = idxIf f (xs.take k) ++ if f p then [(k : Int)] else [] := by
  have hk := (List.getElem?_eq_some_iff.1 h).1
  rw [take_next h, idxIf, idxFrom_append]
  simp only [idxFrom, List.length_take, Nat.min_eq_left (Nat.le_of_lt hk), Nat.zero_add, idxIf]
theorem idxIf_len (f : T3 → Bool) (xs : List T3) : (idxIf f xs).length ≤ xs.length := by
  have : ∀ b, (idxFrom f b xs).length ≤ xs.length := by
    induction xs with
    | nil => simp [idxFrom]
    | cons p xs ih =>
      intro b
      simp only [idxFrom]
      split
      · simp only [List.length_cons]; have := ih (b + 1); omega
      · have := ih (b + 1); simp only [List.length_cons]; omega
  exact this 0
/-- Gates and the ends of a way. -/
def WayOk (xs : List T3) (f t : Int) : Prop := GatesOk xs ∧ (0 ≤ f ∧ f ≤ 1000) ∧ (0 ≤ t ∧ t ≤ 1000)
def inW (f t : Int) (p : T3) : Bool := decide (f ≤ p.a ∧ p.a < t)
end Go.Proofs.Ytngbpdijempkpaa
