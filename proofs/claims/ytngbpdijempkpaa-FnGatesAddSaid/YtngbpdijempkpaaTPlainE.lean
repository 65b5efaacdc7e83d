/- Plain mathematics of tolls: lists of gates, and the least sum of a list of gates. -/
import Derived.Test.YtngbpdijempkpaaTPlainD
set_option linter.unusedVariables false
namespace Go.Proofs.Ytngbpdijempkpaa

/-- The bounds of a gate. -/
def GBd (p : T3) : Prop := 0 ≤ p.a ∧ p.a ≤ 999 ∧ 0 ≤ p.b ∧ p.b ≤ 3 ∧ 1 ≤ p.c ∧ p.c ≤ 99
theorem gates_iff {xs : List T3} : GatesOk xs ↔ xs.length ≤ 10 ∧ (∀ p ∈ xs, GBd p) ∧ xs.Pairwise (fun p q => p.a < q.a) := by
  constructor
  · intro h
    refine ⟨h.1, fun p hp => ?_, List.pairwise_iff_getElem.2 fun i j hi hj hij => ?_⟩
    · obtain ⟨i, hi⟩ := List.getElem?_of_mem hp
      have := h.2 i p hi
      unfold GOk at this
      unfold GBd
      omega
    · exact gates_mono h j hij (List.getElem?_eq_getElem hi) (List.getElem?_eq_getElem hj)
  · rintro ⟨h1, h2, h3⟩
    refine ⟨h1, fun i p hp => ?_⟩
    have hb := h2 p (List.mem_of_getElem? hp)
    unfold GBd at hb
    refine ⟨hb.1, ?_, hb.2.1, hb.2.2.1, hb.2.2.2.1, hb.2.2.2.2.1, hb.2.2.2.2.2⟩
    cases i with
    | zero => simp only [lastM]; omega
    | succ i =>
      have hi := List.getElem?_eq_some_iff.1 hp
      have hi0 := hi.1
      have hi' : i < xs.length := by omega
      rw [lastM_next (List.getElem?_eq_getElem hi')]
      have := List.pairwise_iff_getElem.1 h3 i (i + 1) hi' hi.1 (by omega)
      rw [hi.2] at this
      exact this
theorem gates_sub {xs ys : List T3} (h : GatesOk xs) (hs : ys.Sublist xs) : GatesOk ys := by
  obtain ⟨h1, h2, h3⟩ := gates_iff.1 h
  exact gates_iff.2 ⟨Nat.le_trans hs.length_le h1, fun p hp => h2 p (hs.subset hp), h3.sublist hs⟩

/-- The least sum of gates from here on, under some tickets. -/
def leastG (free : Int) : List T3 → (Int → Int) → Int
  | [], _ => 0
  | p :: ps, c => if p.a ≤ c p.b then min (p.c + leastG free ps (fun t => if p.b = t then p.a + free else c t)) (leastG free ps c) else p.c + leastG free ps (fun t => if p.b = t then p.a + free else c t)
def least1G (free : Int) : List T3 → Int → Int
  | [], _ => 0
  | p :: ps, c => if p.a ≤ c then min (p.c + least1G free ps (p.a + free)) (least1G free ps c) else p.c + least1G free ps (p.a + free)
theorem least_map (g : Int → T3) (free : Int) : ∀ (ps : List Int) (c : Int → Int), least g free ps c = leastG free (ps.map g) c
  | [], _ => rfl
  | i :: ps, c => by
    simp only [least, leastG, List.map_cons, least_map g free ps]
    rfl
theorem least1_map (g : Int → T3) (free : Int) : ∀ (ps : List Int) (c : Int), least1 g free ps c = least1G free (ps.map g) c
  | [], _ => rfl
  | i :: ps, c => by simp only [least1, least1G, List.map_cons, least1_map g free ps]
/-- At gates of one trust the two agree. -/
theorem leastG_one {free t : Int} : ∀ (ps : List T3) (c : Int → Int), (∀ p ∈ ps, p.b = t) → leastG free ps c = least1G free ps (c t)
  | [], _, _ => rfl
  | p :: ps, c, h => by
    have hp := h p (List.mem_cons_self ..)
    have hps := fun q hq => h q (List.mem_cons_of_mem _ hq)
    simp only [leastG, least1G, leastG_one ps _ hps, hp, if_true]
/-- The gates of a way. -/
theorem idxFrom_map {f : T3 → Bool} : ∀ (xs pre : List T3), (idxFrom f pre.length xs).map (gAt (pre ++ xs)) = xs.filter f
  | [], pre => rfl
  | p :: xs, pre => by
    have ih := idxFrom_map (f := f) xs (pre ++ [p])
    simp only [List.length_append, List.length_singleton, List.append_assoc, List.cons_append, List.nil_append] at ih
    simp only [idxFrom, List.filter_cons]
    split
    · rw [List.map_cons, ih]
      congr 1
      exact gAt_at (by simp)
    · exact ih
theorem idxIf_map (f : T3 → Bool) (xs : List T3) : (idxIf f xs).map (gAt xs) = xs.filter f := by
  have := idxFrom_map (f := f) xs []
  unfold idxIf
  simpa using this
theorem flt_map (g : Int → T3) (t : Int) (ps : List Int) : (flt g t ps).map g = (ps.map g).filter (fun p => decide (p.b = t)) := by
  unfold flt
  rw [List.filter_map]
  rfl
/-- The least sum at the gates of one trust alone. -/
theorem own_least {xs : List T3} {free f t : Int} (k : Int) :
    least (gAt (xs.filter fun p => decide (p.b = k))) free (idxIf (inW f t) (xs.filter fun p => decide (p.b = k))) (fun _ => -1) = least1 (gAt xs) free (flt (gAt xs) k (idxIf (inW f t) xs)) (-1) := by
  rw [least_map, least1_map, idxIf_map, flt_map, idxIf_map, leastG_one (t := k)]
  · rw [List.filter_filter, List.filter_filter]
    congr 1
    apply List.filter_congr
    intro p _
    exact Bool.and_comm _ _
  · intro p hp
    have := (List.mem_filter.1 (List.mem_filter.1 hp).1).2
    simpa using this
end Go.Proofs.Ytngbpdijempkpaa
