/- Plain mathematics of tolls: the best payments, trust by trust, sorted. -/
import Derived.Test.YtngbpdijempkpaaTPlainC
import Derived.Test.YtngbpdijempkpaaSortP
set_option linter.unusedVariables false
namespace Go.Proofs.Ytngbpdijempkpaa

/-- The best payments of the first k trusts, one behind the other. -/
def catT (g : Int → T3) (free : Int) (ps : List Int) : Nat → List Int
  | 0 => []
  | k + 1 => catT g free ps k ++ path g free (flt g k ps)
theorem path_sub {g : Int → T3} {free : Int} (l : List Int) : (path g free l).Sublist l := by
  cases l with
  | nil => simp [path]
  | cons i ps => exact (best1_sub ps _).cons_cons _
theorem catT_len {g : Int → T3} {free : Int} (ps : List Int) : ∀ k, (catT g free ps k).length ≤ k * ps.length
  | 0 => by simp [catT]
  | k + 1 => by
    have h1 := catT_len (g := g) (free := free) ps k
    have h2 := (path_sub (g := g) (free := free) (flt g k ps)).length_le
    have h3 : (flt g k ps).length ≤ ps.length := List.length_filter_le _ _
    simp only [catT, List.length_append, Nat.add_mul, Nat.one_mul]
    omega
theorem catT_perm {g : Int → T3} {free : Int} (ps : List Int) (ht : ∀ i ∈ ps, 0 ≤ (g i).b ∧ (g i).b ≤ 3) (ha : ∀ i ∈ ps, 0 ≤ (g i).a) : (catT g free ps 4).Perm (best g free ps (fun _ => -1)) := by
  have hb : ∀ t : Int, path g free (flt g t ps) = flt g t (best g free ps (fun _ => -1)) := fun t => by
    rw [best_flt t ps _ ht]
    exact (best1_start (h := flt g t ps) (fun i hi => ha i (List.mem_filter.1 hi).1)).symm
  have hp := flt_perm (g := g) (best g free ps (fun _ => -1)) (fun i hi => ht i ((best_sub ps _).subset hi))
  have e : catT g free ps 4 = flt g 0 (best g free ps (fun _ => -1)) ++ flt g 1 (best g free ps (fun _ => -1)) ++ flt g 2 (best g free ps (fun _ => -1)) ++ flt g 3 (best g free ps (fun _ => -1)) := by
    simp only [catT, List.nil_append]
    rw [hb, hb, hb, hb]
    rfl
  rw [e]
  exact hp.symm
theorem best_sorted {g : Int → T3} {free : Int} {ps : List Int} (hps : Asc g ps) (ht : ∀ i ∈ ps, 0 ≤ (g i).b ∧ (g i).b ≤ 3) : isort ltI (catT g free ps 4) = best g free ps (fun _ => -1) :=
  sorted_eq ((isort_perm _).trans (catT_perm ps ht hps.2)) (isort_sorted _) (((asc_lt hps).sublist (best_sub ps _)).imp fun h => by omega)
theorem best_len {g : Int → T3} {free : Int} (ps : List Int) (c : Int → Int) : (best g free ps c).length ≤ ps.length := (best_sub ps c).length_le
theorem catT_len4 {g : Int → T3} {free : Int} {ps : List Int} (hps : Asc g ps) (ht : ∀ i ∈ ps, 0 ≤ (g i).b ∧ (g i).b ≤ 3) : (catT g free ps 4).length ≤ ps.length := by
  rw [(catT_perm (free := free) ps ht hps.2).length_eq]; exact best_len ps _
theorem best_at {g : Int → T3} {free : Int} {ps : List Int} {k : Nat} {q : Int} (h : ps[k]? = some q) (c : Int → Int) :
    best g free (ps.drop k) c = if (g q).c + least g free (ps.drop (k + 1)) (up g free c q) = least g free (ps.drop k) c then q :: best g free (ps.drop (k + 1)) (up g free c q) else best g free (ps.drop (k + 1)) c := by
  have hk := List.getElem?_eq_some_iff.1 h
  rw [List.drop_eq_getElem_cons hk.1, hk.2]
  rfl
/-- How far the best payments have been found: o from the first k gates. -/
def Found (g : Int → T3) (free : Int) (ps : List Int) (k : Nat) (o : List Int) : Prop := o.Sublist (ps.take k) ∧ o ++ best g free (ps.drop k) (tk g free o) = best g free ps (fun _ => -1)
theorem found_start {g : Int → T3} {free : Int} (ps : List Int) : Found g free ps 0 [] := ⟨List.nil_sublist _, rfl⟩
theorem found_pay {g : Int → T3} {free : Int} {ps o : List Int} {k : Nat} {q : Int} (h : Found g free ps k o) (hq : ps[k]? = some q) (he : (g q).c + least g free (ps.drop (k + 1)) (up g free (tk g free o) q) = least g free (ps.drop k) (tk g free o)) : Found g free ps (k + 1) (o ++ [q]) := by
  refine ⟨by rw [take_next hq]; exact h.1.append (List.Sublist.refl _), ?_⟩
  rw [← h.2, best_at hq, if_pos he, tk_snoc]
  simp
theorem found_skip {g : Int → T3} {free : Int} {ps o : List Int} {k : Nat} {q : Int} (h : Found g free ps k o) (hq : ps[k]? = some q) (he : ¬ (g q).c + least g free (ps.drop (k + 1)) (up g free (tk g free o) q) = least g free (ps.drop k) (tk g free o)) : Found g free ps (k + 1) o := by
  refine ⟨by rw [take_next hq]; exact h.1.trans (List.sublist_append_left _ _), ?_⟩
  rw [← h.2, best_at hq, if_neg he]
theorem found_end {g : Int → T3} {free : Int} {ps o : List Int} (h : Found g free ps ps.length o) : o = best g free ps (fun _ => -1) := by
  have := h.2
  rw [List.drop_length] at this
  rw [← this]
  simp [best]
/-- What TollBest returns. -/
def BestIs (xs : List T3) (ok : Prop) (f t free : Int) (ys : List Int) (b : Bool) : Prop :=
  (b = true ∧ ok ∧ ys = best (gAt xs) free (idxIf (inW f t) xs) (fun _ => -1)) ∨ (b = false ∧ ¬ ok ∧ ys = [])
theorem way_trust {f : T3 → Bool} {xs : List T3} (hG : GatesOk xs) : ∀ i ∈ idxIf f xs, 0 ≤ (gAt xs i).b ∧ (gAt xs i).b ≤ 3 := fun i hi => by
  obtain ⟨k, rfl, hk, e, h1, h2, h3, h4, h5, h6⟩ := gate_of hG hi
  exact ⟨h3, h4⟩
end Go.Proofs.Ytngbpdijempkpaa
