/- Plain mathematics of a gate's place. -/
import Derived.Test.YtngbpdijempkpaaGPlain
set_option linter.unusedVariables false
namespace Go.Proofs.Ytngbpdijempkpaa
/-- How many gates lie ahead of a mile. -/
def lead (m : Int) : List T3 → Nat
  | [] => 0
  | p :: xs => if p.a < m then lead m xs + 1 else 0
theorem lead_le (m : Int) : ∀ xs : List T3, lead m xs ≤ xs.length
  | [] => Nat.le_refl _
  | p :: xs => by
    have := lead_le m xs
    simp only [lead, List.length_cons]
    split <;> omega
theorem lead_at (m : Int) : ∀ (xs : List T3) (k : Nat) (p : T3), xs[k]? = some p → k ≤ lead m xs → if p.a < m then k + 1 ≤ lead m xs else lead m xs = k
  | [], k, p, h, _ => by simp at h
  | q :: xs, 0, p, h, _ => by
    simp at h
    subst h
    simp only [lead]
    split
    · omega
    · rfl
  | q :: xs, k + 1, p, h, hk => by
    simp only [List.getElem?_cons_succ] at h
    simp only [lead] at hk ⊢
    by_cases hq : q.a < m
    · rw [if_pos hq] at hk ⊢
      have := lead_at m xs k p h (by omega)
      split
      · rename_i hp; rw [if_pos hp] at this; omega
      · rename_i hp; rw [if_neg hp] at this; omega
    · rw [if_neg hq] at hk; omega
theorem lead_step {m : Int} {xs : List T3} {k : Nat} {x y z : Int} (h : xs[k]? = some ⟨x, y, z⟩) (hk : k ≤ lead m xs) (hx : x < m) : k + 1 ≤ lead m xs := by
  have := lead_at m xs k _ h hk
  rwa [if_pos hx] at this
theorem lead_stop {m : Int} {xs : List T3} {k : Nat} {x y z : Int} (h : xs[k]? = some ⟨x, y, z⟩) (hk : k ≤ lead m xs) (hx : ¬ x < m) : lead m xs = k := by
  have := lead_at m xs k _ h hk
  rwa [if_neg hx] at this
/-- The list with a gate at its place. -/
def ins (xs : List T3) (p : T3) : List T3 := xs.take (lead p.a xs) ++ [p] ++ xs.drop (lead p.a xs)
theorem ins_len (xs : List T3) (p : T3) : (ins xs p).length = xs.length + 1 := by
  have := lead_le p.a xs
  simp only [ins, List.length_append, List.length_take, List.length_drop, List.length_singleton]
  omega
def AddOk (xs : List T3) (p : T3) : Prop := GatesOk xs ∧ GatesOk (ins xs p)
end Go.Proofs.Ytngbpdijempkpaa
