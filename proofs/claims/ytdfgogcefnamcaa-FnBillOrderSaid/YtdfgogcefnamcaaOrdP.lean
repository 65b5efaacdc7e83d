/- Plain mathematics: way-bills in order. -/
import Derived.Test.YtdfgogcefnamcaaBPlain
import Derived.Test.YtdfgogcefnamcaaSortP
set_option linter.unusedVariables false
namespace Go.Proofs.Ytdfgogcefnamcaa

def cmpI (x y : Int) : Int := if x < y then -1 else if y < x then 1 else 0
def orV (a b : Int) : Int := if a = 0 then b else a
def lessP (p q : T3) : Bool := decide (p.a < q.a ∨ (p.a = q.a ∧ q.b < p.b))
theorem less_cmp (p q : T3) : orV (cmpI p.a q.a) (cmpI q.b p.b) < 0 ↔ lessP p q = true := by
  unfold orV cmpI lessP
  simp only [decide_eq_true_eq]
  split <;> split <;> (try split) <;> (try split) <;> omega
/-- Parcels from and to the same stops. -/
def sameK (p q : T3) : Bool := decide (q.a = p.a ∧ q.b = p.b)
theorem insP_filter {x p : T3} : ∀ acc : List T3, (insR lessP x acc).filter (sameK p) = (if sameK p x = true then [x] else []) ++ acc.filter (sameK p)
  | [] => by
    simp only [insR, List.filter_cons, List.filter_nil, List.append_nil]
  | y :: ys => by
    have ih := insP_filter (x := x) (p := p) ys
    simp only [insR]
    by_cases h : lessP x y = true
    · rw [if_pos h, List.filter_cons, List.filter_cons, ih]
      by_cases h1 : sameK p x = true
      · have h2 : ¬ sameK p y = true := by
          simp only [sameK, lessP, decide_eq_true_eq] at *
          omega
        rw [if_neg h2, if_neg h2]
      · rw [if_neg h1]
        simp
    · rw [if_neg h, List.filter_cons]
      split <;> simp
theorem sortP_filter (p : T3) (l : List T3) : (isort lessP l).filter (sameK p) = l.filter (sameK p) := by
  have key : ∀ (l acc : List T3), (l.foldl (fun acc x => insR lessP x acc) acc).filter (sameK p) = (l.filter (sameK p)).reverse ++ acc.filter (sameK p) := by
    intro l
    induction l with
    | nil => intro acc; simp
    | cons x l ih =>
      intro acc
      rw [List.foldl_cons, ih, insP_filter, List.filter_cons]
      split <;> simp
  unfold isort
  rw [List.filter_reverse]
  unfold sortR
  rw [key]
  simp
theorem insP_sorted (x : T3) : ∀ l : List T3, l.Pairwise (fun a b => lessP a b = false) → (insR lessP x l).Pairwise (fun a b => lessP a b = false)
  | [], _ => by simp [insR]
  | y :: ys, h => by
    have h' := List.pairwise_cons.1 h
    simp only [insR]
    by_cases hxy : lessP x y = true
    · rw [if_pos hxy]
      refine List.pairwise_cons.2 ⟨fun z hz => ?_, insP_sorted x ys h'.2⟩
      rcases List.mem_cons.1 ((insR_perm x ys).subset hz) with rfl | hz
      · simp only [lessP, decide_eq_true_eq] at hxy
        simp only [lessP, decide_eq_false_iff_not]
        omega
      · exact h'.1 z hz
    · rw [if_neg hxy]
      refine List.pairwise_cons.2 ⟨fun z hz => ?_, h⟩
      rcases List.mem_cons.1 hz with rfl | hz
      · simpa using hxy
      · have h2 := h'.1 z hz
        simp only [lessP, decide_eq_true_eq, decide_eq_false_iff_not] at *
        omega
def SortedP (l : List T3) : Prop := l.Pairwise (fun a b => lessP b a = false)
theorem sortP_sorted (l : List T3) : SortedP (isort lessP l) := by
  have key : ∀ (l acc : List T3), acc.Pairwise (fun a b => lessP a b = false) → (l.foldl (fun acc x => insR lessP x acc) acc).Pairwise (fun a b => lessP a b = false) := by
    intro l
    induction l with
    | nil => intro acc h; exact h
    | cons x l ih => intro acc h; exact ih _ (insP_sorted x acc h)
  unfold isort SortedP
  rw [List.pairwise_reverse]
  exact key l [] List.Pairwise.nil
/-- A list in order is known by its classes. -/
theorem sortedP_eq : ∀ (l1 l2 : List T3), SortedP l1 → SortedP l2 → (∀ p, l1.filter (sameK p) = l2.filter (sameK p)) → l1 = l2
  | [], l2, _, _, h => by
    cases l2 with
    | nil => rfl
    | cons y t =>
      have := h y
      rw [List.filter_nil, List.filter_cons, if_pos (by simp [sameK])] at this
      cases this
  | x :: t1, l2, h1, h2, h => by
    cases l2 with
    | nil =>
      have := h x
      rw [List.filter_nil, List.filter_cons, if_pos (by simp [sameK])] at this
      cases this
    | cons y t2 =>
      have p1 := List.pairwise_cons.1 h1
      have p2 := List.pairwise_cons.1 h2
      have hx : x ∈ y :: t2 := by
        have : x ∈ (x :: t1).filter (sameK x) := List.mem_filter.2 ⟨List.mem_cons_self .., by simp [sameK]⟩
        rw [h x] at this
        exact (List.mem_filter.1 this).1
      have hy : y ∈ x :: t1 := by
        have : y ∈ (y :: t2).filter (sameK y) := List.mem_filter.2 ⟨List.mem_cons_self .., by simp [sameK]⟩
        rw [← h y] at this
        exact (List.mem_filter.1 this).1
      have hk : sameK x y = true := by
        have a1 : x = y ∨ lessP x y = false := by
          rcases List.mem_cons.1 hx with e | e
          · exact .inl e
          · exact .inr (p2.1 x e)
        have a2 : y = x ∨ lessP y x = false := by
          rcases List.mem_cons.1 hy with e | e
          · exact .inl e
          · exact .inr (p1.1 y e)
        rcases a1 with rfl | a1
        · simp [sameK]
        · rcases a2 with rfl | a2
          · simp [sameK]
          · simp only [lessP, decide_eq_false_iff_not] at a1 a2
            simp only [sameK, decide_eq_true_eq]
            omega
      have hh := h x
      rw [List.filter_cons, if_pos (by simp [sameK]), List.filter_cons, if_pos hk] at hh
      have e := (List.cons.inj hh).1
      subst e
      congr 1
      refine sortedP_eq t1 t2 p1.2 p2.2 fun p => ?_
      have hp := h p
      rw [List.filter_cons, List.filter_cons] at hp
      by_cases c : sameK p x = true
      · rw [if_pos c, if_pos c] at hp
        exact (List.cons.inj hp).2
      · rw [if_neg c, if_neg c] at hp
        exact hp

/-! ### As the reference puts them in order -/
def cls (xs : List T3) (f t : Int) : List T3 := xs.filter fun p => decide (p.a = f ∧ p.b = t)
def inn (n : Nat) (xs : List T3) (f : Int) : Nat → List T3
  | 0 => []
  | m + 1 => inn n xs f m ++ cls xs f ((n : Int) - m)
def outO (n : Nat) (xs : List T3) : Nat → List T3
  | 0 => []
  | f + 1 => outO n xs f ++ inn n xs f (n - f)
theorem cls_next {xs : List T3} {k : Nat} {x y z : Int} (f t : Int) (h : xs[k]? = some ⟨x, y, z⟩) : cls (xs.take (k + 1)) f t = cls (xs.take k) f t ++ if x = f ∧ y = t then [⟨x, y, z⟩] else [] := by
  unfold cls
  rw [take_next h, List.filter_append]
  congr 1
  by_cases c : x = f ∧ y = t
  · rw [if_pos c]; simp [c]
  · rw [if_neg c]; simp [c]
theorem cls_len (xs : List T3) (f t : Int) : (cls xs f t).length ≤ xs.length := List.length_filter_le _ _
theorem cls_filter (xs : List T3) (f t : Int) (p : T3) : (cls xs f t).filter (sameK p) = if p.a = f ∧ p.b = t then xs.filter (sameK p) else [] := by
  unfold cls
  rw [List.filter_filter]
  by_cases c : p.a = f ∧ p.b = t
  · rw [if_pos c]
    refine List.filter_congr fun q hq => ?_
    rw [Bool.eq_iff_iff]
    simp only [sameK, Bool.and_eq_true, decide_eq_true_eq]
    omega
  · rw [if_neg c, List.filter_eq_nil_iff]
    intro q hq
    simp only [sameK, Bool.and_eq_true, decide_eq_true_eq]
    omega
theorem inn_filter (n : Nat) (xs : List T3) (f : Int) (p : T3) : ∀ m : Nat, (inn n xs f m).filter (sameK p) = if p.a = f ∧ (n : Int) - m < p.b ∧ p.b ≤ n then xs.filter (sameK p) else []
  | 0 => by
    rw [if_neg (by omega)]; rfl
  | m + 1 => by
    simp only [inn]
    rw [List.filter_append, inn_filter n xs f p m, cls_filter]
    by_cases c : p.a = f ∧ p.b = (n : Int) - m
    · rw [if_neg (by omega), if_pos c, if_pos (by push_cast; omega)]; simp
    · rw [if_neg c]
      by_cases d : p.a = f ∧ (n : Int) - m < p.b ∧ p.b ≤ n
      · rw [if_pos d, if_pos (by push_cast; omega)]; simp
      · rw [if_neg d, if_neg (by push_cast; omega)]; rfl
theorem out_filter (n : Nat) (xs : List T3) (p : T3) (hp : 0 ≤ p.a ∧ p.a < p.b ∧ p.b ≤ n) : ∀ f : Nat, f ≤ n → (outO n xs f).filter (sameK p) = if p.a < f then xs.filter (sameK p) else []
  | 0, _ => by rw [if_neg (by omega)]; rfl
  | f + 1, hf => by
    simp only [outO]
    rw [List.filter_append, out_filter n xs p hp f (by omega), inn_filter]
    by_cases c : p.a = f
    · rw [if_neg (by omega), if_pos (by omega), if_pos (by push_cast; omega)]; rfl
    · rw [if_neg (c := p.a = (f : Int) ∧ _) (by omega)]
      by_cases d : p.a < f
      · rw [if_pos d, if_pos (by push_cast; omega)]; simp
      · rw [if_neg d, if_neg (by push_cast; omega)]; rfl
theorem cls_mem {xs : List T3} {f t : Int} {p : T3} (h : p ∈ cls xs f t) : p ∈ xs ∧ p.a = f ∧ p.b = t := by
  have := List.mem_filter.1 h
  simpa using this
theorem inn_mem {n : Nat} {xs : List T3} {f : Int} {p : T3} : ∀ m : Nat, p ∈ inn n xs f m → p ∈ xs ∧ p.a = f ∧ (n : Int) - m < p.b
  | 0, h => by simp [inn] at h
  | m + 1, h => by
    rcases List.mem_append.1 h with h | h
    · have := inn_mem m h
      push_cast
      exact ⟨this.1, this.2.1, by omega⟩
    · have := cls_mem h
      push_cast
      exact ⟨this.1, this.2.1, by omega⟩
theorem inn_sorted (n : Nat) (xs : List T3) (f : Int) : ∀ m : Nat, SortedP (inn n xs f m)
  | 0 => List.Pairwise.nil
  | m + 1 => by
    refine List.pairwise_append.2 ⟨inn_sorted n xs f m, ?_, fun p hp q hq => ?_⟩
    · refine List.Pairwise.imp_of_mem (R := fun _ _ => True) (fun {p q} hp hq _ => ?_) (List.pairwise_of_forall (fun _ _ => trivial))
      have h1 := cls_mem hp
      have h2 := cls_mem hq
      simp only [lessP, decide_eq_false_iff_not]
      omega
    · have h1 := inn_mem m hp
      have h2 := cls_mem hq
      simp only [lessP, decide_eq_false_iff_not]
      omega
theorem out_mem {n : Nat} {xs : List T3} {p : T3} : ∀ f : Nat, p ∈ outO n xs f → p ∈ xs ∧ p.a < f
  | 0, h => by simp [outO] at h
  | f + 1, h => by
    rcases List.mem_append.1 h with h | h
    · have := out_mem f h
      push_cast
      exact ⟨this.1, by omega⟩
    · have := inn_mem _ h
      push_cast
      exact ⟨this.1, by omega⟩
theorem out_sorted (n : Nat) (xs : List T3) : ∀ f : Nat, SortedP (outO n xs f)
  | 0 => List.Pairwise.nil
  | f + 1 => by
    refine List.pairwise_append.2 ⟨out_sorted n xs f, inn_sorted n xs f _, fun p hp q hq => ?_⟩
    have h1 := out_mem f hp
    have h2 := inn_mem _ hq
    simp only [lessP, decide_eq_false_iff_not]
    omega
/-- Both put the parcels into the same order. -/
theorem order_eq {n : Nat} {xs : List T3} (h : ∀ p ∈ xs, OkP n p) : outO n xs n = isort lessP xs := by
  refine sortedP_eq _ _ (out_sorted n xs n) (sortP_sorted xs) fun p => ?_
  rw [sortP_filter]
  by_cases c : ∃ q ∈ xs, sameK p q = true
  · obtain ⟨q, hq, hk⟩ := c
    have ho := h q hq
    unfold OkP at ho
    simp only [sameK, decide_eq_true_eq] at hk
    rw [out_filter n xs p (by omega) n (Nat.le_refl _), if_pos (by omega)]
  · have e : ∀ l : List T3, (∀ q ∈ l, q ∈ xs) → l.filter (sameK p) = [] := fun l hl => by
      rw [List.filter_eq_nil_iff]
      intro q hq hk
      exact c ⟨q, hl q hq, hk⟩
    rw [e _ fun q hq => (out_mem n hq).1, e xs fun q hq => hq]
theorem inn_len (n : Nat) (xs : List T3) (f : Int) : ∀ m : Nat, (inn n xs f m).length ≤ m * xs.length
  | 0 => by simp [inn]
  | m + 1 => by
    have h1 := inn_len n xs f m
    have h2 := cls_len xs f ((n : Int) - m)
    simp only [inn, List.length_append]
    rw [Nat.add_mul]
    omega
theorem out_len (n : Nat) (xs : List T3) (hn : n ≤ 7) : ∀ f : Nat, (outO n xs f).length ≤ f * (7 * xs.length)
  | 0 => by simp [outO]
  | f + 1 => by
    have h1 := out_len n xs hn f
    have h2 := inn_len n xs f (n - f)
    have h3 : (n - f) * xs.length ≤ 7 * xs.length := Nat.mul_le_mul_right _ (by omega)
    simp only [outO, List.length_append]
    rw [Nat.add_mul]
    omega
/-- What is in order stays as it is. -/
theorem order_twice (xs : List T3) : isort lessP (isort lessP xs) = isort lessP xs :=
  sortedP_eq _ _ (sortP_sorted _) (sortP_sorted _) fun p => sortP_filter p _
end Go.Proofs.Ytdfgogcefnamcaa
