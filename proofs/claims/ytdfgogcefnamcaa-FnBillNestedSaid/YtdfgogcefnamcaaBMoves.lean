/- Plain mathematics of the stack: what it holds, and moves counted pair by pair. -/
import Derived.Test.YtdfgogcefnamcaaStack
set_option linter.unusedVariables false
namespace Go.Proofs.Ytdfgogcefnamcaa

/-- q lies above p. -/
def ab (p q : P4) : Bool := decide (p.a < q.a ∨ (p.a = q.a ∧ p.i < q.i))
/-- q lies above p when p is taken out. -/
def rel (p q : P4) : Bool := decide ((p.a < q.a ∨ (p.a = q.a ∧ p.i < q.i)) ∧ q.a < p.b ∧ (p.b < q.b ∨ (p.b = q.b ∧ p.i < q.i)))
theorem placed_pw {l : List P4} {b0 : Int} (h : Placed l b0) : l.Pairwise fun p q => p.i < q.i := by
  rw [List.pairwise_iff_getElem]
  intro i j hi hj hij
  have h1 := h i _ (List.getElem?_eq_getElem hi)
  have h2 := h j _ (List.getElem?_eq_getElem hj)
  omega
theorem ord_sorted {l : List P4} (hl : Placed l 0) (hab : ∀ p ∈ l, 0 ≤ p.a ∧ p.a < p.b) : ∀ s : Nat, (ordP l s).Pairwise fun p q => ab p q = true
  | 0 => by simp [ordP]
  | s + 1 => by
    simp only [ordP]
    refine List.pairwise_append.2 ⟨ord_sorted hl hab s, ?_, fun p hp q hq => ?_⟩
    · have h1 : (l.filter fun p => decide (p.a = (s : Int))).Pairwise fun p q => p.i < q.i := (placed_pw hl).sublist List.filter_sublist
      refine List.Pairwise.imp_of_mem ?_ h1
      intro p q hp hq h
      have hp := (List.mem_filter.1 hp).2
      have hq := (List.mem_filter.1 hq).2
      simp only [decide_eq_true_eq] at hp hq
      simp only [ab, decide_eq_true_eq]
      omega
    · have h1 := ((mem_ordP hab s).1 hp).2
      have h2 := (List.mem_filter.1 hq).2
      simp only [decide_eq_true_eq] at h2
      simp only [ab, decide_eq_true_eq]
      omega
/-- How many lie above one. -/
theorem above_count {p : P4} : ∀ X : List P4, X.Pairwise (fun p q => ab p q = true) → p ∈ X → (∀ q ∈ X, q.i = p.i → q = p) → ((X.map (·.i)).length : Int) - 1 - ((X.map (·.i)).idxOf p.i : Int) = X.countP (ab p)
  | [], _, h, _ => by simp at h
  | q :: X, hs, hp, hi => by
    have hs' := List.pairwise_cons.1 hs
    by_cases e : q.i = p.i
    · have := hi q (List.mem_cons_self ..) e
      subst this
      have h1 : X.countP (ab q) = X.length := List.countP_eq_length.2 fun r hr => hs'.1 r hr
      have h2 : ab q q = false := by simp [ab]
      rw [List.countP_cons, h1, h2, List.map_cons, List.idxOf_cons_self, List.length_cons, List.length_map]
      simp
    · have hp' : p ∈ X := by
        rcases List.mem_cons.1 hp with h | h
        · exact absurd (by rw [h]) e
        · exact h
      have ih := above_count X hs'.2 hp' (fun r hr => hi r (List.mem_cons_of_mem _ hr))
      have h1 := hs'.1 p hp'
      have h2 : ab p q = false := by
        simp only [ab, decide_eq_true_eq] at h1
        simp only [ab, decide_eq_false_iff_not]
        omega
      have h3 : (q.i :: X.map (·.i)).idxOf p.i = (X.map (·.i)).idxOf p.i + 1 := by
        rw [List.idxOf_cons]
        have : (q.i == p.i) = false := by simpa using e
        rw [this]
        rfl
      rw [List.countP_cons, h2, List.map_cons, h3, List.length_cons]
      simp only [Bool.false_eq_true, if_false, Nat.add_zero]
      rw [← ih]
      omega
theorem countP_two {α : Type} {f g h : α → Bool} : ∀ l : List α, (∀ q ∈ l, (h q = true ↔ f q = true ∨ g q = true) ∧ ¬ (f q = true ∧ g q = true)) → l.countP h = l.countP f + l.countP g
  | [], _ => by simp
  | q :: l, H => by
    have ih := countP_two l fun r hr => H r (List.mem_cons_of_mem _ hr)
    have h1 := H q (List.mem_cons_self ..)
    rw [List.countP_cons, List.countP_cons, List.countP_cons, ih]
    cases hf : f q <;> cases hg : g q <;> cases hh : h q <;> simp [hf, hg, hh] at h1 <;> simp <;> omega
theorem ord_count {l : List P4} (hab : ∀ p ∈ l, 0 ≤ p.a ∧ p.a < p.b) (f : P4 → Bool) : ∀ s : Nat, (ordP l s).countP f = l.countP fun q => f q && decide (q.a < (s : Int))
  | 0 => by
    simp only [ordP, List.countP_nil]
    symm
    rw [List.countP_eq_zero]
    intro q hq
    have := hab q hq
    simp
    omega
  | s + 1 => by
    simp only [ordP, List.countP_append]
    rw [ord_count hab f s, List.countP_filter]
    symm
    refine countP_two l fun q hq => ?_
    simp only [Bool.and_eq_true, decide_eq_true_eq]
    push_cast
    constructor
    · constructor
      · rintro ⟨h1, h2⟩
        by_cases e : q.a = s
        · exact .inr ⟨h1, e⟩
        · exact .inl ⟨h1, by omega⟩
      · rintro (⟨h1, h2⟩ | ⟨h1, h2⟩)
        · exact ⟨h1, by omega⟩
        · exact ⟨h1, by omega⟩
    · rintro ⟨⟨_, h1⟩, _, h2⟩
      omega
def cntI (l : List P4) (p : P4) : Int := (l.countP (rel p) : Int)
theorem takes_moves {l : List P4} (hl : Placed l 0) (hab : ∀ p ∈ l, 0 ≤ p.a ∧ p.a < p.b) (s : Nat) :
    ∀ k : Nat, k ≤ l.length → (takesP s (l.take k) (runI l s)).2 = (runI l s).2 + ((l.take k).map fun p => if p.b = (s : Int) then cntI l p else 0).sum
  | 0, _ => by simp [takesP]
  | k + 1, hk => by
    have hp : l[k]? = some l[k] := List.getElem?_eq_getElem (by omega)
    have ih := takes_moves hl hab s k (by omega)
    have hi := hl k _ hp
    have hf := takes_form hl hab s (run_form hl hab s) k (by omega)
    rw [takesP_next _ hp, take_next hp, List.map_append, List.sum_append, List.map_singleton, List.sum_singleton]
    generalize l[k] = p at *
    have hpl := List.mem_of_getElem? hp
    have ha := hab p hpl
    simp only [Int.zero_add] at hi
    unfold takeStep
    by_cases hb : p.b = s
    · rw [if_pos hb, if_pos hb]
      have hpx : p ∈ (ordP l s).filter (still s k) := List.mem_filter.2 ⟨(mem_ordP hab s).2 ⟨hpl, by omega⟩, by simp only [still, decide_eq_true_eq]; omega⟩
      have hmem : p.i ∈ (takesP s (l.take k) (runI l s)).1 := by rw [hf]; exact List.mem_map.2 ⟨p, hpx, rfl⟩
      unfold takeI
      rw [if_pos hmem]
      simp only
      rw [ih, hf, above_count _ ((ord_sorted hl hab s).sublist List.filter_sublist) hpx (fun q hq e => hl.inj ((mem_ordP hab s).1 (List.mem_filter.1 hq).1).1 hpl e), List.countP_filter, ord_count hab]
      have e : (l.countP fun q => (ab p q && still s k q) && decide (q.a < (s : Int))) = l.countP (rel p) := by
        refine List.countP_congr fun q hq => ?_
        simp only [ab, still, rel, Bool.and_eq_true, decide_eq_true_eq]
        have hin := fun e => hl.inj hq hpl e
        constructor
        · rintro ⟨⟨h1, h2⟩, h3⟩
          refine ⟨h1, by omega, ?_⟩
          rcases h2 with h2 | ⟨h2, h4⟩
          · exact .inl (by omega)
          · by_cases e : q.i = p.i
            · have := hin e
              subst this
              omega
            · exact .inr ⟨by omega, by omega⟩
        · rintro ⟨h1, h2, h3⟩
          exact ⟨⟨h1, by omega⟩, by omega⟩
      rw [e]
      unfold cntI
      omega
    · rw [if_neg hb, if_neg hb, ih]
      omega
theorem sum_two {α : Type} {f g h : α → Int} : ∀ l : List α, (∀ q ∈ l, h q = f q + g q) → (l.map h).sum = (l.map f).sum + (l.map g).sum
  | [], _ => by simp
  | q :: l, H => by
    have ih := sum_two l fun r hr => H r (List.mem_cons_of_mem _ hr)
    have h1 := H q (List.mem_cons_self ..)
    simp only [List.map_cons, List.sum_cons]
    omega
theorem run_moves {l : List P4} (hl : Placed l 0) (hab : ∀ p ∈ l, 0 ≤ p.a ∧ p.a < p.b) : ∀ s : Nat, (runI l s).2 = (l.map fun p => if p.b < (s : Int) then cntI l p else 0).sum
  | 0 => by
    simp only [runI]
    have e : ∀ l' : List P4, (∀ p ∈ l', p ∈ l) → 0 = (l'.map fun p => if p.b < ((0 : Nat) : Int) then cntI l p else 0).sum := by
      intro l'
      induction l' with
      | nil => intro _; rfl
      | cons p l' ih =>
        intro h
        have := hab p (h p (List.mem_cons_self ..))
        rw [List.map_cons, List.sum_cons, if_neg (by omega), ← ih fun q hq => h q (List.mem_cons_of_mem _ hq)]
        rfl
    exact e l fun _ h => h
  | s + 1 => by
    have h := takes_moves hl hab s l.length (Nat.le_refl _)
    rw [List.take_length] at h
    simp only [runI, stopI]
    rw [h, run_moves hl hab s]
    symm
    refine sum_two l fun q hq => ?_
    show (if q.b < ((s + 1 : Nat) : Int) then cntI l q else 0) = (if q.b < (s : Int) then cntI l q else 0) + (if q.b = (s : Int) then cntI l q else 0)
    rw [show ((s + 1 : Nat) : Int) = (s : Int) + 1 from rfl]
    split <;> split <;> split <;> omega
/-- The moves of a way-bill. -/
def mvs (xs : List T3) : Int := ((packs xs).map (cntI (packs xs))).sum
theorem packs_ok {n : Int} {xs : List T3} (h : ∀ p ∈ xs, OkP n p) : ∀ q ∈ packs xs, (0 ≤ q.a ∧ q.a < q.b) ∧ q.b ≤ n := fun q hq => by
  obtain ⟨k, hk⟩ := List.getElem?_of_mem hq
  obtain ⟨p, hp, rfl⟩ := packs_at hk
  have := h p (List.mem_of_getElem? hp)
  unfold OkP at this
  dsimp only
  omega
theorem moves_eq {n : Nat} {xs : List T3} (h : ∀ p ∈ xs, OkP n p) : (runI (packs xs) (n + 1)).2 = mvs xs := by
  have ho := packs_ok h
  rw [run_moves (placed_packs xs) (fun q hq => (ho q hq).1)]
  unfold mvs
  congr 1
  refine List.map_congr_left fun q hq => ?_
  rw [if_pos]
  have := (ho q hq).2
  push_cast
  omega

/-! ### Moves counted over pairs of places -/
def w2 (p q : T3) : Int := (if p.a ≤ q.a ∧ q.a < p.b ∧ p.b ≤ q.b then 1 else 0) + (if q.a < p.a ∧ p.a < q.b ∧ q.b < p.b then 1 else 0)
def mv : List T3 → Int
  | [] => 0
  | p :: xs => (xs.map (w2 p)).sum + mv xs
def r1 (p q : P4) : Int := if rel p q = true then 1 else 0
theorem cnt_sum (p : P4) : ∀ l : List P4, cntI l p = (l.map (r1 p)).sum
  | [] => rfl
  | q :: l => by
    have ih := cnt_sum p l
    unfold cntI at *
    rw [List.countP_cons, List.map_cons, List.sum_cons, ← ih]
    unfold r1
    split <;> (push_cast; omega)
def t3 (p : P4) : T3 := ⟨p.a, p.b, p.c⟩
theorem dbl_mv : ∀ l : List P4, l.Pairwise (fun p q => p.i < q.i) → (l.map fun p => (l.map (r1 p)).sum).sum = mv (l.map t3)
  | [], _ => rfl
  | p :: l, h => by
    have h' := List.pairwise_cons.1 h
    have ih := dbl_mv l h'.2
    have hpp : r1 p p = 0 := by
      unfold r1 rel
      rw [if_neg]
      simp
    have e1 : (l.map fun q => ((p :: l).map (r1 q)).sum).sum = (l.map fun q => r1 q p).sum + (l.map fun q => (l.map (r1 q)).sum).sum :=
      sum_two l fun q _ => by rw [List.map_cons, List.sum_cons]
    have e2 : ((l.map t3).map (w2 (t3 p))).sum = (l.map (r1 p)).sum + (l.map fun q => r1 q p).sum := by
      rw [List.map_map]
      refine sum_two l fun q hq => ?_
      have hi := h'.1 q hq
      have hx : r1 p q = if p.a ≤ q.a ∧ q.a < p.b ∧ p.b ≤ q.b then 1 else 0 := by
        unfold r1 rel
        by_cases c : p.a ≤ q.a ∧ q.a < p.b ∧ p.b ≤ q.b
        · rw [if_pos c, if_pos]
          simp only [decide_eq_true_eq]
          omega
        · rw [if_neg c, if_neg]
          simp only [decide_eq_true_eq]
          omega
      have hy : r1 q p = if q.a < p.a ∧ p.a < q.b ∧ q.b < p.b then 1 else 0 := by
        unfold r1 rel
        by_cases c : q.a < p.a ∧ p.a < q.b ∧ q.b < p.b
        · rw [if_pos c, if_pos]
          simp only [decide_eq_true_eq]
          omega
        · rw [if_neg c, if_neg]
          simp only [decide_eq_true_eq]
          omega
      rw [hx, hy]
      rfl
    simp only [List.map_cons, List.sum_cons, mv] at e1 e2 ih ⊢
    omega
theorem packs_t3 (xs : List T3) : (packs xs).map t3 = xs := by
  apply List.ext_getElem?
  intro j
  simp only [packs, List.getElem?_map, List.getElem?_mapIdx, Option.map_map]
  cases xs[j]? <;> rfl
theorem mvs_mv (xs : List T3) : mvs xs = mv xs := by
  have h := dbl_mv (packs xs) (placed_pw (placed_packs xs))
  rw [packs_t3] at h
  rw [← h]
  unfold mvs
  congr 1
  exact List.map_congr_left fun p _ => cnt_sum p _
theorem w2_nonneg (p q : T3) : 0 ≤ w2 p q := by
  unfold w2
  split <;> split <;> omega
theorem w2_sum {p : T3} {xs ys : List T3} (h : ys.Sublist xs) : (ys.map (w2 p)).sum ≤ (xs.map (w2 p)).sum := by
  induction h with
  | slnil => exact Int.le_refl _
  | cons q h ih =>
    have := w2_nonneg p q
    rw [List.map_cons, List.sum_cons]; omega
  | cons_cons q h ih => rw [List.map_cons, List.sum_cons, List.map_cons, List.sum_cons]; omega
theorem w2_sum0 (p : T3) (xs : List T3) : 0 ≤ (xs.map (w2 p)).sum := by
  have := w2_sum (p := p) (List.nil_sublist xs)
  simpa using this
theorem mv_sub {xs ys : List T3} (h : ys.Sublist xs) : mv ys ≤ mv xs := by
  induction h with
  | slnil => exact Int.le_refl _
  | cons q h ih =>
    rename_i l1 l2
    have := w2_sum0 q l2
    simp only [mv]
    omega
  | cons_cons q h ih =>
    have := w2_sum (p := q) h
    simp only [mv]
    omega
theorem mv_nonneg (xs : List T3) : 0 ≤ mv xs := by
  have := mv_sub (List.nil_sublist xs)
  simpa [mv] using this
theorem mv_append : ∀ (xs ys : List T3), mv xs + mv ys ≤ mv (xs ++ ys)
  | [], ys => by simp [mv]
  | p :: xs, ys => by
    have ih := mv_append xs ys
    have h := w2_sum0 p ys
    simp only [List.cons_append, mv, List.map_append, List.sum_append]
    omega
theorem mv_zero {xs : List T3} (h : mv xs = 0) : xs.Pairwise fun p q => w2 p q = 0 := by
  induction xs with
  | nil => exact List.Pairwise.nil
  | cons p xs ih =>
    have h1 := w2_sum0 p xs
    have h2 := mv_nonneg xs
    simp only [mv] at h
    refine List.pairwise_cons.2 ⟨fun q hq => ?_, ih (by omega)⟩
    have hs : ([q]).Sublist xs := List.singleton_sublist.2 hq
    have h3 := w2_sum (p := p) hs
    have h4 := w2_nonneg p q
    simp only [List.map_cons, List.map_nil, List.sum_cons, List.sum_nil] at h3
    omega
/-- In a nested way-bill no two overlap. -/
theorem mv_nested {xs : List T3} (h : mv xs = 0) {i j : Nat} {p q : T3} (hi : xs[i]? = some p) (hj : xs[j]? = some q) : ¬ (p.a < q.a ∧ q.a < p.b ∧ p.b < q.b) := by
  rintro ⟨h1, h2, h3⟩
  have hpw := List.pairwise_iff_getElem.1 (mv_zero h)
  obtain ⟨hi1, hi2⟩ := List.getElem?_eq_some_iff.1 hi
  obtain ⟨hj1, hj2⟩ := List.getElem?_eq_some_iff.1 hj
  rcases Nat.lt_trichotomy i j with c | c | c
  · have := hpw i j hi1 hj1 c
    rw [hi2, hj2] at this
    unfold w2 at this
    rw [if_pos (by omega), if_neg (by omega)] at this
    omega
  · subst c
    rw [hi] at hj
    injection hj with hj
    subst hj
    omega
  · have := hpw j i hj1 hi1 c
    rw [hi2, hj2] at this
    unfold w2 at this
    rw [if_neg (by omega), if_pos (by omega)] at this
    omega

/-! ### What the stack holds -/
theorem stk_mem {n : Int} {xs : List T3} (h : ∀ p ∈ xs, OkP n p) (s : Nat) {i : Nat} {p : T3} (hi : xs[i]? = some p) : ((i : Int) ∈ (runI (packs xs) (s + 1)).1) ↔ p.a ≤ s ∧ (s : Int) < p.b := by
  have ho := packs_ok h
  have hpk : (packs xs)[i]? = some ⟨p.a, p.b, i, p.c⟩ := by simp [packs, hi]
  rw [run_form (placed_packs xs) (fun q hq => (ho q hq).1), List.mem_map]
  constructor
  · rintro ⟨q, hq, e⟩
    obtain ⟨h1, h2⟩ := List.mem_filter.1 hq
    have h3 := (mem_ordP (fun q hq => (ho q hq).1) (s + 1)).1 h1
    have := (placed_packs xs).inj h3.1 (List.mem_of_getElem? hpk) e
    subst this
    simp only [still, decide_eq_true_eq] at h2
    push_cast at h2 h3
    have h4 := h3.2
    omega
  · rintro ⟨h1, h2⟩
    refine ⟨_, List.mem_filter.2 ⟨(mem_ordP (fun q hq => (ho q hq).1) (s + 1)).2 ⟨List.mem_of_getElem? hpk, ?_⟩, ?_⟩, rfl⟩
    · push_cast; omega
    · simp only [still, decide_eq_true_eq]; push_cast; omega
theorem stk_sorted {n : Int} {xs : List T3} (h : ∀ p ∈ xs, OkP n p) (s : Nat) {j : Nat} {x y : Int} (hx : (runI (packs xs) s).1[j]? = some x) (hy : (runI (packs xs) s).1[j + 1]? = some y) :
    ∃ (i k : Nat) (p q : T3), x = i ∧ y = k ∧ xs[i]? = some p ∧ xs[k]? = some q ∧ (p.a < q.a ∨ (p.a = q.a ∧ i < k)) := by
  have ho := packs_ok h
  rw [run_form (placed_packs xs) (fun q hq => (ho q hq).1)] at hx hy
  have hs := (ord_sorted (placed_packs xs) (fun q hq => (ho q hq).1) s).sublist (List.filter_sublist (p := still s 0))
  have hm : ∀ q ∈ (ordP (packs xs) s).filter (still s 0), q ∈ packs xs := fun q hq => ((mem_ordP (fun q hq => (ho q hq).1) s).1 (List.mem_filter.1 hq).1).1
  generalize (ordP (packs xs) s).filter (still s 0) = X at *
  rw [List.getElem?_map, Option.map_eq_some_iff] at hx hy
  obtain ⟨P, hP, rfl⟩ := hx
  obtain ⟨Q, hQ, rfl⟩ := hy
  have h1 := List.getElem?_eq_some_iff.1 hP
  have h2 := List.getElem?_eq_some_iff.1 hQ
  have h3 := List.pairwise_iff_getElem.1 hs j (j + 1) h1.1 h2.1 (Nat.lt_succ_self _)
  rw [h1.2, h2.2] at h3
  obtain ⟨i, hi⟩ := List.getElem?_of_mem (hm P (List.mem_of_getElem? hP))
  obtain ⟨k, hk⟩ := List.getElem?_of_mem (hm Q (List.mem_of_getElem? hQ))
  obtain ⟨p, hp, rfl⟩ := packs_at hi
  obtain ⟨q, hq, rfl⟩ := packs_at hk
  simp only [ab, decide_eq_true_eq] at h3
  exact ⟨i, k, p, q, rfl, rfl, hp, hq, by omega⟩
theorem stk_idx {n : Int} {xs : List T3} (h : ∀ p ∈ xs, OkP n p) (s : Nat) {x : Int} (hx : x ∈ (runI (packs xs) s).1) : 0 ≤ x ∧ x < xs.length := by
  have ho := packs_ok h
  rw [run_form (placed_packs xs) (fun q hq => (ho q hq).1)] at hx
  obtain ⟨q, hq, rfl⟩ := List.mem_map.1 hx
  obtain ⟨k, hk⟩ := List.getElem?_of_mem ((mem_ordP (fun q hq => (ho q hq).1) s).1 (List.mem_filter.1 hq).1).1
  obtain ⟨p, hp, rfl⟩ := packs_at hk
  have := (List.getElem?_eq_some_iff.1 hp).1
  show 0 ≤ (k : Int) ∧ (k : Int) < xs.length
  omega
theorem stk_end {n : Nat} {xs : List T3} (h : ∀ p ∈ xs, OkP n p) : (runI (packs xs) (n + 1)).1 = [] := by
  have ho := packs_ok h
  rw [run_form (placed_packs xs) (fun q hq => (ho q hq).1)]
  have : (ordP (packs xs) (n + 1)).filter (still (n + 1 : Nat) 0) = [] := by
    rw [List.filter_eq_nil_iff]
    intro q hq
    have := ho q ((mem_ordP (fun q hq => (ho q hq).1) (n + 1)).1 hq).1
    simp only [still, decide_eq_true_eq]
    push_cast
    omega
  rw [this]
  rfl
theorem packs_snoc (xs : List T3) (p : T3) : packs (xs ++ [p]) = packs xs ++ [⟨p.a, p.b, xs.length, p.c⟩] := by
  simp [packs, List.mapIdx_concat]
/-- What is added lies on top. -/
theorem stk_top {n : Int} {xs : List T3} {p : T3} (h : ∀ q ∈ xs ++ [p], OkP n q) {s : Nat} (hs : p.a = s) : ∃ l, (runI (packs (xs ++ [p])) (s + 1)).1 = l ++ [(xs.length : Int)] := by
  have ho := packs_ok h
  rw [run_form (placed_packs _) (fun q hq => (ho q hq).1)]
  simp only [ordP]
  have hp := h p (by simp)
  unfold OkP at hp
  have e : (packs (xs ++ [p])).filter (fun q => decide (q.a = (s : Int))) = (packs xs).filter (fun q => decide (q.a = (s : Int))) ++ [⟨p.a, p.b, xs.length, p.c⟩] := by
    rw [packs_snoc, List.filter_append]
    congr 1
    simp [hs]
  rw [e, ← List.append_assoc, List.filter_append, List.map_append]
  refine ⟨_, congrArg _ ?_⟩
  have : still ((s + 1 : Nat) : Int) 0 ⟨p.a, p.b, xs.length, p.c⟩ = true := by
    simp only [still, decide_eq_true_eq]
    push_cast
    omega
  rw [List.filter_cons, if_pos this]
  rfl
end Go.Proofs.Ytdfgogcefnamcaa
