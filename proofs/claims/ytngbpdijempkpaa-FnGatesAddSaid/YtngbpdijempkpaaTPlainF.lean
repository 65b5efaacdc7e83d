/- Plain mathematics of tolls: what the laws on tolls say of payments and least sums. -/
import Derived.Test.YtngbpdijempkpaaTPlainE
import Derived.Test.YtngbpdijempkpaaGPlainB
set_option linter.unusedVariables false
namespace Go.Proofs.Ytngbpdijempkpaa

section
variable {g : Int → T3} {free : Int}
/-- No payments are less than the least. -/
theorem least_le_rest (hf : 0 ≤ free) : ∀ (l done rest : List Int), Asc g (done ++ l) → rest.Sublist l → (∀ i ∈ l, i ∈ rest ∨ Freed g free (done ++ rest) i) → least g free l (tk g free done) ≤ sumC g rest
  | [], done, rest, _, hs, _ => by
    obtain rfl := List.eq_nil_of_sublist_nil hs
    simp [least, sumC]
  | i :: l, done, rest, ha, hs, hp => by
    have hpw := List.pairwise_append.1 ha.1
    have hpc := List.pairwise_cons.1 hpw.2.1
    by_cases hi : i ∈ rest
    · -- the first of the rest is i
      obtain ⟨rest', rfl, hs'⟩ : ∃ rest', rest = i :: rest' ∧ rest'.Sublist l := by
        cases hs with
        | cons _ h => exact absurd (hpc.1 i (h.subset hi)).1 (by omega)
        | cons_cons _ h => exact ⟨_, rfl, h⟩
      have ih := least_le_rest hf l (done ++ [i]) rest' (by rw [List.append_assoc]; exact ha) hs' (fun j hj => by
        have hij := (hpc.1 j hj).1
        rcases hp j (List.mem_cons_of_mem _ hj) with h | h
        · rcases List.mem_cons.1 h with rfl | h
          · omega
          · exact .inl h
        · refine .inr ?_
          rw [List.append_assoc]; exact h)
      rw [tk_snoc] at ih
      rw [sumC_cons]
      simp only [least]
      split <;> omega
    · have hs' : rest.Sublist l := by
        cases hs with
        | cons _ h => exact h
        | cons_cons _ h => exact absurd (List.mem_cons_self ..) hi
      have hfr : Freed g free done i := by
        rcases hp i (List.mem_cons_self ..) with h | ⟨k, hk, hki, h⟩
        · exact absurd h hi
        · rcases List.mem_append.1 hk with hk | hk
          · exact ⟨k, hk, hki, h⟩
          · have := (hpc.1 k (hs'.subset hk)).1; omega
      have hft := (freed_tk hpw.1 (fun k hk => ⟨(hpw.2.2 k hk i (List.mem_cons_self ..)).1, ha.2 k (List.mem_append_left _ hk)⟩) hf (ha.2 i (List.mem_append_right _ (List.mem_cons_self ..)))).2 hfr
      have ih := least_le_rest hf l done rest (ha.sub (List.Sublist.append (List.Sublist.refl _) (List.sublist_cons_self i l))) hs' (fun j hj => hp j (List.mem_cons_of_mem _ hj))
      simp only [least, if_pos hft]
      omega
theorem least_le_pays {ps paid : List Int} (hf : 0 ≤ free) (ha : Asc g ps) (hp : Pays g free ps paid) : least g free ps (fun _ => -1) ≤ sumC g paid :=
  least_le_rest hf ps [] paid ha hp.1 hp.2
theorem pays_all (ps : List Int) : Pays g free ps ps := ⟨List.Sublist.refl _, fun i hi => .inl hi⟩
theorem Pays.more {ps paid : List Int} (h : Pays g free ps paid) {free' : Int} (hf : free ≤ free') : Pays g free' ps paid :=
  ⟨h.1, fun i hi => (h.2 i hi).imp id fun ⟨k, hk, h1, h2, h3⟩ => ⟨k, hk, h1, h2, by omega⟩⟩
theorem sumC_sub {a b : List Int} (h : a.Sublist b) (hc : ∀ i ∈ b, 0 ≤ (g i).c) : sumC g a ≤ sumC g b := by
  induction h with
  | slnil => exact Int.le_refl _
  | cons x h ih =>
    have h1 := ih fun i hi => hc i (List.mem_cons_of_mem _ hi)
    have h2 := hc x (List.mem_cons_self ..)
    rw [sumC_cons]; omega
  | cons_cons x h ih =>
    have h1 := ih fun i hi => hc i (List.mem_cons_of_mem _ hi)
    rw [sumC_cons, sumC_cons]; omega
/-- Who pays where it must pays for the way. -/
theorem must_pays {ps : List Int} (hf : 0 ≤ free) (ha : Asc g ps) : Pays g free ps (must g free ps) := by
  have key : ∀ k, k ≤ ps.length → ∀ i ∈ ps.take k, i ∈ must g free (ps.take k) ∨ Freed g free (must g free (ps.take k)) i := by
    intro k
    induction k with
    | zero => intro _ i hi; simp at hi
    | succ k ih =>
      intro hk i hi
      have e := List.getElem?_eq_getElem (show k < ps.length by omega)
      rw [take_next e, List.mem_append, List.mem_singleton] at hi
      have hsub := must_sub (g := g) (free := free) ps k (by omega)
      have hah := ahead_tk ha hf hsub e
      rw [must_next e]
      by_cases hfr : (g ps[k]).a ≤ tk g free (must g free (ps.take k)) (g ps[k]).b
      · rw [if_pos hfr]
        rcases hi with hi | rfl
        · exact ih (by omega) i hi
        · exact .inr (hah.1 hfr)
      · rw [if_neg hfr]
        rcases hi with hi | rfl
        · rcases ih (by omega) i hi with h | h
          · exact .inl (List.mem_append_left _ h)
          · exact .inr (h.mono fun x hx => List.mem_append_left _ hx)
        · exact .inl (by simp)
  have h1 := must_sub (g := g) (free := free) ps ps.length (Nat.le_refl _)
  have h2 := key ps.length (Nat.le_refl _)
  rw [List.take_length] at h1 h2
  exact ⟨h1, h2⟩
/-- Each payment of who pays where it must was not free. -/
theorem must_need {ps : List Int} (hf : 0 ≤ free) (ha : Asc g ps) : ∀ k, k ≤ ps.length → ∀ j q, (must g free (ps.take k))[j]? = some q → ¬ Freed g free ((must g free (ps.take k)).take j) q := by
  intro k
  induction k with
  | zero => intro _ j q h; simp [must] at h
  | succ k ih =>
    intro hk j q h
    have e := List.getElem?_eq_getElem (show k < ps.length by omega)
    have hsub := must_sub (g := g) (free := free) ps k (by omega)
    have hah := ahead_tk ha hf hsub e
    rw [must_next e] at h ⊢
    by_cases hfr : (g ps[k]).a ≤ tk g free (must g free (ps.take k)) (g ps[k]).b
    · rw [if_pos hfr] at h ⊢
      exact ih (by omega) j q h
    · rw [if_neg hfr] at h ⊢
      rcases Nat.lt_or_ge j (must g free (ps.take k)).length with hj | hj
      · rw [List.getElem?_append_left hj] at h
        rw [List.take_append_of_le_length (Nat.le_of_lt hj)]
        exact ih (by omega) j q h
      · have hjl := (List.getElem?_eq_some_iff.1 h).1
        rw [List.length_append, List.length_singleton] at hjl
        have ej : j = (must g free (ps.take k)).length := by omega
        subst ej
        rw [List.getElem?_append_right (Nat.le_refl _), Nat.sub_self] at h
        simp only [List.getElem?_cons_zero, Option.some.injEq] at h
        subst h
        rw [List.take_left']
        · exact fun hh => hfr (hah.2 hh)
        · rfl
/-- Without one of its payments it does not pay for the way. -/
theorem must_less {ps : List Int} (hf : 0 ≤ free) (ha : Asc g ps) {j : Nat} (hj : j < (must g free ps).length) : ¬ Pays g free ps ((must g free ps).eraseIdx j) := by
  intro hP
  have hm := must_pays hf ha
  have e := List.getElem?_eq_getElem hj
  have hn := must_need (g := g) (free := free) hf ha ps.length (Nat.le_refl _) j _ (by rw [List.take_length]; exact e)
  rw [List.take_length] at hn
  have hpw := (asc_lt ha).sublist hm.1
  rw [← List.take_append_drop j (must g free ps), List.drop_eq_getElem_cons hj] at hpw
  have hp1 := List.pairwise_append.1 hpw
  have hp2 := List.pairwise_cons.1 hp1.2.1
  rw [List.eraseIdx_eq_take_drop_succ] at hP
  have hin := hm.1.subset (List.getElem_mem hj)
  rcases hP.2 _ hin with h | ⟨k, hk, hki, h⟩
  · rcases List.mem_append.1 h with h | h
    · have := hp1.2.2 _ h _ (List.mem_cons_self ..); omega
    · have := hp2.1 _ h; omega
  · rcases List.mem_append.1 hk with hk | hk
    · exact hn ⟨k, hk, hki, h⟩
    · have := hp2.1 _ hk; omega
/-- With no free miles every gate is paid. -/
theorem must_none {ps : List Int} (ha : Asc g ps) : must g 0 ps = ps := by
  have key : ∀ k, k ≤ ps.length → must g 0 (ps.take k) = ps.take k := by
    intro k
    induction k with
    | zero => intro _; rfl
    | succ k ih =>
      intro hk
      have e := List.getElem?_eq_getElem (show k < ps.length by omega)
      rw [must_next e, ih (by omega), if_neg, take_next e]
      intro h
      obtain ⟨x, hx, hxi, hb, hm⟩ := (ahead_tk ha (Int.le_refl 0) (List.Sublist.refl (ps.take k)) e).1 h
      have hpw := ha.1
      rw [← List.take_append_drop k ps, List.drop_eq_getElem_cons (show k < ps.length by omega)] at hpw
      have := ((List.pairwise_append.1 hpw).2.2 x hx _ (List.mem_cons_self ..)).2
      omega
  have := key ps.length (Nat.le_refl _)
  rwa [List.take_length] at this
/-- The best payments pay for the way. -/
theorem best_pays {ps : List Int} (hf : 0 ≤ free) (ha : Asc g ps) : Pays g free ps (best g free ps (fun _ => -1)) := by
  have key : ∀ (l done : List Int), Asc g (done ++ l) → ∀ i ∈ l, i ∈ best g free l (tk g free done) ∨ Freed g free (done ++ best g free l (tk g free done)) i := by
    intro l
    induction l with
    | nil => intro done _ i hi; simp at hi
    | cons a l ih =>
      intro done hasc i hi
      have hpw := List.pairwise_append.1 hasc.1
      simp only [best]
      split
      · rename_i hc
        rcases List.mem_cons.1 hi with rfl | hi
        · exact .inl (List.mem_cons_self ..)
        · have := ih (done ++ [a]) (by rw [List.append_assoc]; exact hasc) i hi
          rw [tk_snoc, List.append_assoc] at this
          rcases this with h | h
          · exact .inl (List.mem_cons_of_mem _ h)
          · exact .inr h
      · rename_i hc
        rcases List.mem_cons.1 hi with rfl | hi
        · -- it was not paid, so it was free
          refine .inr ?_
          have hfree : (g i).a ≤ tk g free done (g i).b := by
            by_cases hh : (g i).a ≤ tk g free done (g i).b
            · exact hh
            · exfalso; apply hc; simp only [least, if_neg hh]
          exact ((freed_tk hpw.1 (fun k hk => ⟨(hpw.2.2 k hk i (List.mem_cons_self ..)).1, hasc.2 k (List.mem_append_left _ hk)⟩) hf (hasc.2 i (List.mem_append_right _ (List.mem_cons_self ..)))).1 hfree).mono fun x hx => List.mem_append_left _ hx
        · exact ih done (hasc.sub (List.Sublist.append (List.Sublist.refl _) (List.sublist_cons_self a l))) i hi
  exact ⟨best_sub ps _, key ps [] ha⟩
/-- Without one of the best payments it does not pay for the way. -/
theorem best_less {ps : List Int} (hf : 0 ≤ free) (ha : Asc g ps) (hc : ∀ i ∈ ps, 1 ≤ (g i).c) {j : Nat} (hj : j < (best g free ps (fun _ => -1)).length) : ¬ Pays g free ps ((best g free ps (fun _ => -1)).eraseIdx j) := by
  intro hP
  have h1 := least_le_pays hf ha hP
  have h2 := sum_best (g := g) (free := free) ps (fun _ => -1)
  have h3 := hc _ ((best_sub ps _).subset (List.getElem_mem hj))
  have e : best g free ps (fun _ => -1) = (best g free ps (fun _ => -1)).take j ++ (best g free ps (fun _ => -1))[j] :: (best g free ps (fun _ => -1)).drop (j + 1) := by
    rw [← List.drop_eq_getElem_cons hj, List.take_append_drop]
  rw [List.eraseIdx_eq_take_drop_succ, sumC_append] at h1
  have h4 := congrArg (sumC g) e
  rw [sumC_append, sumC_cons] at h4
  omega
/-- The first gate of a trust is paid. -/
theorem first_paid {ps paid : List Int} (ha : Asc g ps) (hp : Pays g free ps paid) {k : Nat} {i : Int} (hk : ps[k]? = some i) (hn : ∀ j ∈ ps.take k, (g j).b ≠ (g i).b) : i ∈ paid := by
  rcases hp.2 i (mem_at hk) with h | ⟨x, hx, hxi, hb, _⟩
  · exact h
  · exfalso
    have hxp := hp.1.subset hx
    have hk' := List.getElem?_eq_some_iff.1 hk
    rw [← List.take_append_drop k ps, List.drop_eq_getElem_cons hk'.1, hk'.2, List.mem_append, List.mem_cons] at hxp
    rcases hxp with h | rfl | h
    · exact hn x h hb
    · omega
    · have hpw := asc_lt ha
      rw [← List.take_append_drop k ps, List.drop_eq_getElem_cons hk'.1, hk'.2] at hpw
      have := (List.pairwise_cons.1 (List.pairwise_append.1 hpw).2.1).1 x h
      omega
end

/-! ### Least sums of lists of gates -/
theorem leastG_nonneg {free : Int} : ∀ (l : List T3) (c : Int → Int), (∀ p ∈ l, 1 ≤ p.c) → 0 ≤ leastG free l c
  | [], _, _ => Int.le_refl _
  | p :: l, c, h => by
    have h0 := h p (List.mem_cons_self ..)
    have h1 := leastG_nonneg (free := free) l (fun t => if p.b = t then p.a + free else c t) fun q hq => h q (List.mem_cons_of_mem _ hq)
    have h2 := leastG_nonneg (free := free) l c fun q hq => h q (List.mem_cons_of_mem _ hq)
    simp only [leastG]
    split <;> omega
/-- More free miles and more tickets cost no more. -/
theorem leastG_mono {free free' : Int} (hf : free ≤ free') : ∀ (l : List T3) (c c' : Int → Int), (∀ t, c t ≤ c' t) → leastG free' l c' ≤ leastG free l c
  | [], _, _, _ => Int.le_refl _
  | p :: l, c, c', hc => by
    have h1 := leastG_mono hf l (fun t => if p.b = t then p.a + free else c t) (fun t => if p.b = t then p.a + free' else c' t) (fun t => by
      have := hc t
      show (if p.b = t then p.a + free else c t) ≤ if p.b = t then p.a + free' else c' t
      split <;> omega)
    have h2 := leastG_mono hf l c c' hc
    have h3 := hc p.b
    simp only [leastG]
    by_cases ha : p.a ≤ c p.b
    · rw [if_pos ha, if_pos (Int.le_trans ha h3)]
      omega
    · rw [if_neg ha]
      split <;> omega
theorem leastG_pre {free : Int} : ∀ (l m : List T3) (c : Int → Int), (∀ p ∈ m, 1 ≤ p.c) → leastG free l c ≤ leastG free (l ++ m) c
  | [], m, c, h => leastG_nonneg m c h
  | p :: l, m, c, h => by
    have h1 := leastG_pre (free := free) l m (fun t => if p.b = t then p.a + free else c t) h
    have h2 := leastG_pre (free := free) l m c h
    simp only [leastG, List.cons_append]
    split <;> omega
theorem leastG_split {free : Int} (hf : 0 ≤ free) : ∀ (l m : List T3) (c : Int → Int), (∀ t, -1 ≤ c t) → (∀ p ∈ l, 0 ≤ p.a) → leastG free (l ++ m) c ≤ leastG free l c + leastG free m (fun _ => -1)
  | [], m, c, hc, _ => by
    have := leastG_mono (Int.le_refl free) m (fun _ => -1) c hc
    simp only [List.nil_append, leastG]
    omega
  | p :: l, m, c, hc, ha => by
    have hp := ha p (List.mem_cons_self ..)
    have hl := fun q hq => ha q (List.mem_cons_of_mem _ hq)
    have h1 := leastG_split hf l m (fun t => if p.b = t then p.a + free else c t) (fun t => by
      have := hc t
      show -1 ≤ if p.b = t then p.a + free else c t
      split <;> omega) hl
    have h2 := leastG_split hf l m c hc hl
    simp only [leastG, List.cons_append]
    split <;> omega
/-- The gates of a way, cut at a mile. -/
theorem filter_cut {f m t : Int} (hfm : f ≤ m) (hmt : m ≤ t) : ∀ xs : List T3, xs.Pairwise (fun p q => p.a < q.a) → xs.filter (inW f t) = xs.filter (inW f m) ++ xs.filter (inW m t)
  | [], _ => rfl
  | p :: xs, h => by
    have h' := List.pairwise_cons.1 h
    have ih := filter_cut hfm hmt xs h'.2
    by_cases h1 : p.a < m
    · have e2 : inW m t p = false := by simp [inW]; omega
      have e1 : inW f t p = inW f m p := by
        simp only [inW]
        apply decide_eq_decide.2
        omega
      rw [List.filter_cons, List.filter_cons, List.filter_cons, e2, e1, ih]
      split <;> simp
    · have e1 : inW f m p = false := by simp [inW]; omega
      have e2 : inW f t p = inW m t p := by
        simp only [inW]
        apply decide_eq_decide.2
        omega
      have e3 : xs.filter (inW f m) = [] := by
        rw [List.filter_eq_nil_iff]
        intro q hq
        have := h'.1 q hq
        simp [inW]; omega
      rw [List.filter_cons, List.filter_cons, List.filter_cons, e1, e2, ih, e3]
      simp
/-- All gates moved. -/
def moved (k : Int) (xs : List T3) : List T3 := xs.map fun p => ⟨p.a + k, p.b, p.c⟩
theorem leastG_moved {free k : Int} : ∀ (l : List T3) (c c' : Int → Int), (∀ t, (c t = -1 ∧ c' t = -1) ∨ c' t = c t + k) → (∀ p ∈ l, 0 ≤ p.a ∧ 0 ≤ p.a + k) → leastG free (moved k l) c' = leastG free l c
  | [], _, _, _, _ => rfl
  | p :: l, c, c', hc, ha => by
    have hp := ha p (List.mem_cons_self ..)
    have hl := fun q hq => ha q (List.mem_cons_of_mem _ hq)
    have h1 := leastG_moved (free := free) l (fun t => if p.b = t then p.a + free else c t) (fun t => if p.b = t then p.a + k + free else c' t) (fun t => by
      have := hc t
      show ((if p.b = t then p.a + free else c t) = -1 ∧ (if p.b = t then p.a + k + free else c' t) = -1) ∨ (if p.b = t then p.a + k + free else c' t) = (if p.b = t then p.a + free else c t) + k
      split <;> omega) hl
    have h2 := leastG_moved (free := free) l c c' hc hl
    have h3 := hc p.b
    simp only [moved, List.map_cons, leastG] at h1 h2 ⊢
    have e : (p.a + k ≤ c' p.b) ↔ (p.a ≤ c p.b) := by omega
    rw [h1, h2]
    by_cases hh : p.a ≤ c p.b
    · rw [if_pos hh, if_pos (e.2 hh)]
    · rw [if_neg hh, if_neg (fun h => hh (e.1 h))]
/-- The least sum is the sum of the trusts' least sums. -/
theorem leastG_sum4 {free : Int} (L : List T3) (h : ∀ p ∈ L, 0 ≤ p.b ∧ p.b ≤ 3) : leastG free L (fun _ => -1) =
    least1G free (L.filter fun p => decide (p.b = 0)) (-1) + least1G free (L.filter fun p => decide (p.b = 1)) (-1) + least1G free (L.filter fun p => decide (p.b = 2)) (-1) + least1G free (L.filter fun p => decide (p.b = 3)) (-1) := by
  have e : (idxIf (fun _ => true) L).map (gAt L) = L := by rw [idxIf_map]; simp
  have h1 := least_sum4 (g := gAt L) (free := free) (idxIf (fun _ => true) L) (fun _ => -1) (fun i hi => by
    have hm := List.mem_map_of_mem (f := gAt L) hi
    rw [e] at hm
    exact h _ hm)
  rw [least_map, e] at h1
  rw [h1]
  unfold sum4
  rw [least1_map, least1_map, least1_map, least1_map, flt_map, flt_map, flt_map, flt_map, e]
theorem least1G_bd {free : Int} (hf : 0 ≤ free) : ∀ (l : List T3) (c : Int), (∀ p ∈ l, 1 ≤ p.c) → 0 ≤ least1G free l c ∧ least1G free l c ≤ (l.map T3.c).sum
  | [], _, _ => by simp [least1G]
  | p :: l, c, h => by
    have h0 := h p (List.mem_cons_self ..)
    have h1 := least1G_bd hf l (p.a + free) fun q hq => h q (List.mem_cons_of_mem _ hq)
    have h2 := least1G_bd hf l c fun q hq => h q (List.mem_cons_of_mem _ hq)
    simp only [least1G, List.map_cons, List.sum_cons]
    split <;> omega
theorem least1G_pos {free : Int} (hf : 0 ≤ free) {l : List T3} (hl : l ≠ []) (h : ∀ p ∈ l, 1 ≤ p.c ∧ 0 ≤ p.a) : 1 ≤ least1G free l (-1) := by
  cases l with
  | nil => exact absurd rfl hl
  | cons p l =>
    have h0 := h p (List.mem_cons_self ..)
    have h1 := least1G_bd hf l (p.a + free) fun q hq => (h q (List.mem_cons_of_mem _ hq)).1
    simp only [least1G]
    rw [if_neg (by omega)]
    omega
/-- A gate of its own trust costs its toll. -/
theorem leastG_alone {free : Int} {a b : List T3} {p : T3} (hp : 0 ≤ p.a ∧ 0 ≤ p.b ∧ p.b ≤ 3) (hab : ∀ q ∈ a ++ b, 0 ≤ q.b ∧ q.b ≤ 3) (hal : ∀ q ∈ a ++ b, q.b ≠ p.b) : leastG free (a ++ [p] ++ b) (fun _ => -1) = leastG free (a ++ b) (fun _ => -1) + p.c := by
  rw [leastG_sum4 (a ++ b) hab, leastG_sum4 (a ++ [p] ++ b) (fun q hq => by
    rcases List.mem_append.1 hq with hq | hq
    · rcases List.mem_append.1 hq with hq | hq
      · exact hab q (List.mem_append_left _ hq)
      · rw [List.mem_singleton] at hq; subst hq; exact hp.2
    · exact hab q (List.mem_append_right _ hq))]
  have hno : ∀ t : Int, p.b ≠ t → (a ++ [p] ++ b).filter (fun q => decide (q.b = t)) = (a ++ b).filter (fun q => decide (q.b = t)) := fun t ht => by
    simp [List.filter_append, ht]
  have hyes : (a ++ [p] ++ b).filter (fun q => decide (q.b = p.b)) = [p] ∧ (a ++ b).filter (fun q => decide (q.b = p.b)) = [] := by
    have h1 : (a ++ b).filter (fun q => decide (q.b = p.b)) = [] := by
      rw [List.filter_eq_nil_iff]
      intro q hq
      simpa using hal q hq
    rw [List.filter_append] at h1
    have h2 := List.append_eq_nil_iff.1 h1
    refine ⟨?_, by rw [List.filter_append]; exact h1⟩
    rw [List.filter_append, List.filter_append, h2.1, h2.2]
    simp
  have hone : least1G free [p] (-1) = p.c := by
    simp only [least1G]
    rw [if_neg (by omega)]
    omega
  have hnil : least1G free ([] : List T3) (-1) = 0 := rfl
  rcases trust4 hp.2 with e | e | e | e
  all_goals
    rw [e] at hyes hno
  · rw [hyes.1, hyes.2, hno 1 (by omega), hno 2 (by omega), hno 3 (by omega), hone, hnil]; omega
  · rw [hyes.1, hyes.2, hno 0 (by omega), hno 2 (by omega), hno 3 (by omega), hone, hnil]; omega
  · rw [hyes.1, hyes.2, hno 0 (by omega), hno 1 (by omega), hno 3 (by omega), hone, hnil]; omega
  · rw [hyes.1, hyes.2, hno 0 (by omega), hno 1 (by omega), hno 2 (by omega), hone, hnil]; omega
/-- A gate put back where it was. -/
theorem ins_back {xs : List T3} (h : GatesOk xs) {k : Nat} {p : T3} (hk : xs[k]? = some p) : ins (xs.eraseIdx k) p = xs := by
  have h3 := (gates_iff.1 h).2.2
  have hk' := List.getElem?_eq_some_iff.1 hk
  have e : xs = xs.take k ++ p :: xs.drop (k + 1) := by rw [← hk'.2, ← List.drop_eq_getElem_cons hk'.1, List.take_append_drop]
  have hl : lead p.a (xs.take k ++ xs.drop (k + 1)) = k := by
    rw [e] at h3
    have hp1 := List.pairwise_append.1 h3
    have hp2 := List.pairwise_cons.1 hp1.2.1
    have key : ∀ (a b : List T3), (∀ q ∈ a, q.a < p.a) → (∀ q ∈ b, ¬ q.a < p.a) → lead p.a (a ++ b) = a.length := by
      intro a b ha hb
      induction a with
      | nil =>
        cases b with
        | nil => rfl
        | cons q b => simp only [List.nil_append, lead, if_neg (hb q (List.mem_cons_self ..))]; rfl
      | cons q a ih =>
        simp only [List.cons_append, lead, if_pos (ha q (List.mem_cons_self ..)), List.length_cons]
        rw [ih (fun r hr => ha r (List.mem_cons_of_mem _ hr))]
    rw [key _ _ (fun q hq => hp1.2.2 q hq p (List.mem_cons_self ..)) (fun q hq => by have := hp2.1 q hq; omega), List.length_take]
    have := hk'.1
    omega
  rw [List.eraseIdx_eq_take_drop_succ, ins, hl]
  have hlen : (xs.take k).length = k := by rw [List.length_take]; have := hk'.1; omega
  rw [List.take_left' hlen, List.drop_left' hlen, List.append_assoc]
  exact e.symm
end Go.Proofs.Ytngbpdijempkpaa
