/- Plain mathematics: the fullest leg and the seats that are used. -/
import Derived.Test.YtkknfhabfmpogaaSPlainB
set_option linter.unusedVariables false
namespace Go.Proofs.Ytkknfhabfmpogaa
/-- The most on a leg ahead of j. -/
def mostTo (xs : List B3) (k : Bool) : Nat → Int
  | 0 => 0
  | j + 1 => max (mostTo xs k j) (taken xs j k)
/-- One more than the greatest seat of a kind among the first i. -/
def usedTo (xs : List B3) (out : List Int) (k : Bool) : Nat → Int
  | 0 => 0
  | i + 1 => match xs[i]?, out[i]? with
    | some q, some o => if q.c = k then max (usedTo xs out k i) (o + 1) else usedTo xs out k i
    | _, _ => usedTo xs out k i
theorem usedTo_next {xs : List B3} {out : List Int} {k : Bool} {i : Nat} {q : B3} {o : Int} (hq : xs[i]? = some q) (ho : out[i]? = some o) : usedTo xs out k (i + 1) = if q.c = k then max (usedTo xs out k i) (o + 1) else usedTo xs out k i := by
  rw [usedTo, hq, ho]
theorem mostTo_ge (xs : List B3) (k : Bool) : ∀ j i : Nat, i < j → taken xs i k ≤ mostTo xs k j
  | 0, i, h => by omega
  | j + 1, i, h => by
    unfold mostTo
    by_cases e : i = j
    · subst e; omega
    · have := mostTo_ge xs k j i (by omega); omega
theorem mostTo_le (xs : List B3) (k : Bool) (m : Int) (h0 : 0 ≤ m) : ∀ j : Nat, (∀ i : Nat, i < j → taken xs i k ≤ m) → mostTo xs k j ≤ m
  | 0, _ => by unfold mostTo; exact h0
  | j + 1, h => by
    have h1 := mostTo_le xs k m h0 j (fun i hi => h i (by omega))
    have h2 := h j (by omega)
    unfold mostTo
    omega
theorem mostTo_bd (xs : List B3) (k : Bool) : ∀ j : Nat, 0 ≤ mostTo xs k j ∧ mostTo xs k j ≤ xs.length
  | 0 => by unfold mostTo; omega
  | j + 1 => by
    have h1 := mostTo_bd xs k j
    have h2 := taken_bd xs j k
    unfold mostTo
    omega
theorem usedTo_ge {xs : List B3} {out : List Int} (k : Bool) : ∀ (j i : Nat) (q : B3) (o : Int), i < j → xs[i]? = some q → out[i]? = some o → q.c = k → (∀ t, t < j → ∃ q o, xs[t]? = some q ∧ out[t]? = some o) → o + 1 ≤ usedTo xs out k j
  | 0, i, q, o, h, _, _, _, _ => by omega
  | j + 1, i, q, o, h, h1, h2, h3, h4 => by
    obtain ⟨q', o', h5, h6⟩ := h4 j (by omega)
    rw [usedTo_next h5 h6]
    by_cases e : i = j
    · subst e
      rw [h1] at h5
      rw [h2] at h6
      injection h5 with h5
      injection h6 with h6
      subst h5 h6
      rw [if_pos h3]
      omega
    · have := usedTo_ge k j i q o (by omega) h1 h2 h3 (fun t ht => h4 t (by omega))
      split <;> omega
theorem usedTo_le {xs : List B3} {out : List Int} (k : Bool) (m : Int) (h0 : 0 ≤ m) : ∀ j : Nat, (∀ (i : Nat) q o, i < j → xs[i]? = some q → out[i]? = some o → q.c = k → o + 1 ≤ m) → usedTo xs out k j ≤ m
  | 0, _ => by unfold usedTo; exact h0
  | j + 1, h => by
    have h1 := usedTo_le k m h0 j (fun i q o hi a b c => h i q o (by omega) a b c)
    unfold usedTo
    split
    · rename_i q o hq ho
      split
      · rename_i hk
        have := h j q o (by omega) hq ho hk
        omega
      · exact h1
    · exact h1
theorem usedTo_nonneg (xs : List B3) (out : List Int) (k : Bool) : ∀ j : Nat, 0 ≤ usedTo xs out k j
  | 0 => by unfold usedTo; omega
  | j + 1 => by
    have := usedTo_nonneg xs out k j
    unfold usedTo
    split
    · split <;> omega
    · exact this
/-- Seats are as many as the fullest leg needs. -/
theorem used_most {n : Nat} {xs : List B3} (hB : BookOk n xs) (k : Bool) : usedTo xs (plan xs n) k xs.length = mostTo xs k n := by
  obtain ⟨hS, hT⟩ := plan_all hB
  have hl := hS.1
  have all : ∀ t, t < xs.length → ∃ q o, xs[t]? = some q ∧ (plan xs n)[t]? = some o := fun t ht => ⟨_, _, List.getElem?_eq_getElem ht, List.getElem?_eq_getElem (by omega)⟩
  apply Int.le_antisymm
  · refine usedTo_le k _ (mostTo_bd xs k n).1 _ (fun i q o hi hq ho hk => ?_)
    have h1 := hT i q o hq ho
    have h2 := hB.2.2.2.1 q (mem_at hq)
    unfold OkB at h2
    obtain ⟨a, ha⟩ : ∃ a : Nat, q.a = a := ⟨q.a.toNat, by omega⟩
    rw [ha] at h1
    have h3 := mostTo_ge xs k n a (by omega)
    rw [hk] at h1
    omega
  · have h0 := usedTo_nonneg xs (plan xs n) k xs.length
    obtain ⟨m, hm⟩ : ∃ m : Nat, usedTo xs (plan xs n) k xs.length = m := ⟨(usedTo xs (plan xs n) k xs.length).toNat, by omega⟩
    refine mostTo_le xs k _ h0 n (fun i hi => ?_)
    rw [hm]
    refine seat_most hS i k m (fun j q o hq ho hk => ?_)
    have hj := (List.getElem?_eq_some_iff.1 hq).1
    have := usedTo_ge k xs.length j q o hj hq ho hk all
    omega
theorem used_bd {n : Nat} {xs : List B3} (hB : BookOk n xs) (k : Bool) (j : Nat) (hj : j ≤ xs.length) : 0 ≤ usedTo xs (plan xs n) k j ∧ usedTo xs (plan xs n) k j ≤ 6 := by
  refine ⟨usedTo_nonneg _ _ _ _, usedTo_le k 6 (by omega) j (fun i q o hi hq ho hk => ?_)⟩
  have := (plan_all hB).1.2.1 i q o hq ho
  have := capOf_bd q.c
  omega
theorem max_ite (a b : Int) : (if a < b then b else a) = max a b := by
  rw [Int.max_def]
  split <;> split <;> omega
theorem erase_perm {α : Type} {xs : List α} {k : Nat} {p : α} (h : xs[k]? = some p) : (xs.eraseIdx k ++ [p]).Perm xs := by
  obtain ⟨h1, h2⟩ := List.getElem?_eq_some_iff.1 h
  have e : xs = xs.take k ++ p :: xs.drop (k + 1) := by
    rw [← h2, ← List.drop_eq_getElem_cons h1, List.take_append_drop]
  rw [List.eraseIdx_eq_take_drop_succ]
  conv => rhs; rw [e]
  rw [List.append_assoc]
  exact List.Perm.append_left _ (List.perm_append_comm (l₂ := [p]))
end Go.Proofs.Ytkknfhabfmpogaa
