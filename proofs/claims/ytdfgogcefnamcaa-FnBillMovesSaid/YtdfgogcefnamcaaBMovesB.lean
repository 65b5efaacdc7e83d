/- Plain mathematics: moves as a double loop counts them. -/
import Derived.Test.YtdfgogcefnamcaaBMoves
set_option linter.unusedVariables false
namespace Go.Proofs.Ytdfgogcefnamcaa

def pk (p : T3) (i : Nat) : P4 := ⟨p.a, p.b, i, p.c⟩
theorem packs_pk {xs : List T3} {i : Nat} {p : T3} (h : xs[i]? = some p) : (packs xs)[i]? = some (pk p i) := by simp [packs, h, pk]
def mvTo (xs : List T3) (i : Nat) : Int := (((packs xs).take i).map (cntI (packs xs))).sum
def cntTo (xs : List T3) (P : P4) (k : Nat) : Int := (((packs xs).take k).countP (rel P) : Int)
theorem mvTo_next {xs : List T3} {i : Nat} {p : T3} (h : xs[i]? = some p) : mvTo xs (i + 1) = mvTo xs i + cntTo xs (pk p i) xs.length := by
  unfold mvTo cntTo
  have e : (packs xs).take xs.length = packs xs := List.take_of_length_le (by rw [packs_len]; exact Nat.le_refl _)
  rw [take_next (packs_pk h), List.map_append, List.sum_append, e]
  simp [cntI]
theorem cntTo_next {xs : List T3} {k i : Nat} {p q : T3} (h : xs[k]? = some q) : cntTo xs (pk p i) (k + 1) = cntTo xs (pk p i) k + if (p.a < q.a ∨ (p.a = q.a ∧ (i : Int) < k)) ∧ q.a < p.b ∧ (p.b < q.b ∨ (p.b = q.b ∧ (i : Int) < k)) then 1 else 0 := by
  unfold cntTo
  rw [take_next (packs_pk h), List.countP_append, List.countP_singleton]
  have e : (rel (pk p i) (pk q k) = true) ↔ ((p.a < q.a ∨ (p.a = q.a ∧ (i : Int) < k)) ∧ q.a < p.b ∧ (p.b < q.b ∨ (p.b = q.b ∧ (i : Int) < k))) := by
    simp only [rel, pk]
    exact decide_eq_true_iff
  by_cases c : rel (pk p i) (pk q k) = true
  · rw [if_pos c, if_pos (e.1 c)]; push_cast; rfl
  · rw [if_neg c, if_neg (fun h => c (e.2 h))]; push_cast; rfl
theorem cntTo_bd (xs : List T3) (P : P4) (k : Nat) : 0 ≤ cntTo xs P k ∧ cntTo xs P k ≤ k := by
  unfold cntTo
  have h1 := List.countP_le_length (p := rel P) (l := (packs xs).take k)
  have h2 : ((packs xs).take k).length ≤ k := List.length_take_le _ _
  omega
theorem mvTo_bd (xs : List T3) : ∀ i : Nat, 0 ≤ mvTo xs i ∧ mvTo xs i ≤ i * xs.length
  | 0 => by simp [mvTo]
  | i + 1 => by
    have ih := mvTo_bd xs i
    by_cases h : i < xs.length
    · have e := List.getElem?_eq_getElem h
      rw [mvTo_next e]
      have h2 := cntTo_bd xs (pk xs[i] i) xs.length
      push_cast
      rw [Int.add_mul]
      omega
    · have e : mvTo xs (i + 1) = mvTo xs i := by
        unfold mvTo
        rw [List.take_of_length_le (by rw [packs_len]; omega), List.take_of_length_le (by rw [packs_len]; omega)]
      rw [e]
      push_cast
      rw [Int.add_mul]
      omega
theorem mvTo_end (xs : List T3) : mvTo xs xs.length = mvs xs := by
  unfold mvTo mvs
  rw [List.take_of_length_le (by rw [packs_len]; exact Nat.le_refl _)]
end Go.Proofs.Ytdfgogcefnamcaa
