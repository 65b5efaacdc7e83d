/- Plain mathematics of the sort by insertion. -/
set_option linter.unusedVariables false
namespace Go.Proofs.Ytdfgogcefnamcaa

section
variable {α : Type} (less : α → α → Bool)
/-- One more in its place; the list stands from its end on. -/
def insR (x : α) : List α → List α
  | [] => [x]
  | y :: ys => if less x y then y :: insR x ys else x :: y :: ys
def sortR (l : List α) : List α := l.foldl (fun acc x => insR less x acc) []
def isort (l : List α) : List α := (sortR less l).reverse
end

section
variable {α : Type} {less : α → α → Bool}
theorem insR_len (x : α) : ∀ l : List α, (insR less x l).length = l.length + 1
  | [] => rfl
  | y :: ys => by
    simp only [insR]
    split
    · simp [insR_len x ys]
    · simp
theorem insR_perm (x : α) : ∀ l : List α, (insR less x l).Perm (x :: l)
  | [] => List.Perm.refl _
  | y :: ys => by
    simp only [insR]
    split
    · exact ((insR_perm x ys).cons y).trans (List.Perm.swap x y ys)
    · exact List.Perm.refl _
theorem sortR_next {l : List α} {i : Nat} {x : α} (h : l[i]? = some x) : sortR less (l.take (i + 1)) = insR less x (sortR less (l.take i)) := by
  have e : l.take (i + 1) = l.take i ++ [x] := by rw [List.take_add_one, h]; rfl
  rw [e]; unfold sortR; rw [List.foldl_append]; rfl
theorem foldl_perm : ∀ (l acc : List α), (l.foldl (fun acc x => insR less x acc) acc).Perm (acc ++ l)
  | [], acc => by simp
  | x :: l, acc => by
    simp only [List.foldl_cons]
    refine (foldl_perm l _).trans ?_
    have h := (insR_perm (less := less) x acc).append_right l
    refine h.trans ?_
    exact (List.perm_middle (a := x) (l₁ := acc) (l₂ := l)).symm
theorem sortR_perm (l : List α) : (sortR less l).Perm l := by simpa [sortR] using foldl_perm (less := less) l []
theorem isort_perm (l : List α) : (isort less l).Perm l := (List.reverse_perm _).trans (sortR_perm l)
theorem sortR_len (l : List α) : (sortR less l).length = l.length := (sortR_perm l).length_eq
theorem isort_len (l : List α) : (isort less l).length = l.length := (isort_perm l).length_eq
theorem sortR_one (l : List α) : (sortR less (l.take 1)).reverse ++ l.drop 1 = l := by
  cases l with
  | nil => rfl
  | cons x t => rfl
/-- The place where the inner loop stands: x at place j, the ones ahead of it in ys (from their end on), the ones that it has passed in zs. -/
def Ins (less : α → α → Bool) (l : List α) (i j : Nat) (x : α) (cur : List α) : Prop :=
  ∃ ys zs : List α, cur = ys.reverse ++ x :: (zs ++ l.drop (i + 1)) ∧ ys.length = j ∧ sortR less (l.take (i + 1)) = zs.reverse ++ insR less x ys
theorem ins_start {l : List α} {i : Nat} {x : α} (h : l[i]? = some x) : Ins less l i i x ((sortR less (l.take i)).reverse ++ l.drop i) := by
  have hi := List.getElem?_eq_some_iff.1 h
  refine ⟨sortR less (l.take i), [], ?_, ?_, ?_⟩
  · rw [List.drop_eq_getElem_cons hi.1, hi.2]; rfl
  · rw [sortR_len, List.length_take, Nat.min_eq_left (Nat.le_of_lt hi.1)]
  · rw [sortR_next h]; rfl
theorem ins_at {l : List α} {i j : Nat} {x : α} {cur : List α} (h : Ins less l i j x cur) : cur[j]? = some x := by
  obtain ⟨ys, zs, rfl, hj, _⟩ := h
  subst hj
  simp
theorem insL_len {l : List α} {i j : Nat} {x : α} {cur : List α} (h : Ins less l i j x cur) (hi : i < l.length) : cur.length = l.length ∧ j ≤ i := by
  obtain ⟨ys, zs, rfl, hj, hs⟩ := h
  have := congrArg List.length hs
  rw [sortR_len, List.length_take, Nat.min_eq_left hi, List.length_append, List.length_reverse, insR_len] at this
  simp only [List.length_append, List.length_reverse, List.length_cons, List.length_drop]
  omega
theorem ins_prev {l : List α} {i j : Nat} {x : α} {cur : List α} (h : Ins less l i (j + 1) x cur) : ∃ y, cur[j]? = some y ∧
    (less x y = true → Ins less l i j x ((cur.set (j + 1) y).set j x)) ∧ (less x y = false → cur = (sortR less (l.take (i + 1))).reverse ++ l.drop (i + 1)) := by
  obtain ⟨ys, zs, rfl, hj, hs⟩ := h
  cases ys with
  | nil => simp at hj
  | cons y ys =>
    simp only [List.length_cons, Nat.add_right_cancel_iff] at hj
    have hl : ys.reverse.length = j := by simpa using hj
    refine ⟨y, ?_, fun hly => ⟨ys, y :: zs, ?_, hj, ?_⟩, fun hly => ?_⟩
    · simp only [List.reverse_cons, List.append_assoc]
      rw [List.getElem?_append_right (by omega), hl]
      simp
    · simp only [List.reverse_cons, List.append_assoc, List.cons_append, List.nil_append]
      rw [List.set_append_right _ _ (by omega), hl]
      have e : j + 1 - j = 1 := by omega
      rw [e]
      simp only [List.set_cons_succ, List.set_cons_zero]
      rw [List.set_append_right _ _ (by omega), hl, Nat.sub_self]
      simp
    · rw [hs]
      simp [insR, hly]
    · rw [hs]
      simp [insR, hly]
theorem ins_zero {l : List α} {i : Nat} {x : α} {cur : List α} (h : Ins less l i 0 x cur) : cur = (sortR less (l.take (i + 1))).reverse ++ l.drop (i + 1) := by
  obtain ⟨ys, zs, rfl, hj, hs⟩ := h
  obtain rfl : ys = [] := List.eq_nil_of_length_eq_zero hj
  rw [hs]
  simp [insR]
end

/-! ### Integers -/
def ltI (x y : Int) : Bool := decide (x < y)
theorem insR_sorted (x : Int) : ∀ l : List Int, l.Pairwise (fun a b => b ≤ a) → (insR ltI x l).Pairwise (fun a b => b ≤ a)
  | [], _ => by simp [insR]
  | y :: ys, h => by
    have h' := List.pairwise_cons.1 h
    simp only [insR]
    by_cases hxy : x < y
    · rw [if_pos (by simpa [ltI] using hxy)]
      refine List.pairwise_cons.2 ⟨fun z hz => ?_, insR_sorted x ys h'.2⟩
      rcases List.mem_cons.1 ((insR_perm x ys).subset hz) with rfl | hz
      · omega
      · exact h'.1 z hz
    · rw [if_neg (by simpa [ltI] using hxy)]
      refine List.pairwise_cons.2 ⟨fun z hz => ?_, h⟩
      rcases List.mem_cons.1 hz with rfl | hz
      · omega
      · have := h'.1 z hz; omega
theorem sortR_sorted (l : List Int) : (sortR ltI l).Pairwise (fun a b => b ≤ a) := by
  have key : ∀ (l acc : List Int), acc.Pairwise (fun a b => b ≤ a) → (l.foldl (fun acc x => insR ltI x acc) acc).Pairwise (fun a b => b ≤ a) := by
    intro l
    induction l with
    | nil => intro acc h; exact h
    | cons x l ih => intro acc h; exact ih _ (insR_sorted x acc h)
  exact key l [] List.Pairwise.nil
theorem isort_sorted (l : List Int) : (isort ltI l).Pairwise (· ≤ ·) := by
  unfold isort
  rw [List.pairwise_reverse]
  exact sortR_sorted l
end Go.Proofs.Ytdfgogcefnamcaa
