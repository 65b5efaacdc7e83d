/- Plain mathematics of tolls: the gates of a way, and who pays where it must. -/
import Derived.Test.YtngbpdijempkpaaTPlainB
set_option linter.unusedVariables false
namespace Go.Proofs.Ytngbpdijempkpaa

theorem idxFrom_mem {f : T3 → Bool} {i : Int} : ∀ (xs : List T3) (b : Nat), i ∈ idxFrom f b xs → ∃ (k : Nat) (p : T3), i = ((b + k : Nat) : Int) ∧ xs[k]? = some p ∧ f p = true
  | [], b, h => by simp [idxFrom] at h
  | p :: xs, b, h => by
    simp only [idxFrom] at h
    by_cases hp : f p = true
    · rw [if_pos hp] at h
      rcases List.mem_cons.1 h with rfl | h
      · exact ⟨0, p, rfl, rfl, hp⟩
      · obtain ⟨k, q, e, hq, hf⟩ := idxFrom_mem xs (b + 1) h
        exact ⟨k + 1, q, by rw [e]; congr 1; omega, hq, hf⟩
    · rw [if_neg hp] at h
      obtain ⟨k, q, e, hq, hf⟩ := idxFrom_mem xs (b + 1) h
      exact ⟨k + 1, q, by rw [e]; congr 1; omega, hq, hf⟩
theorem idxIf_mem {f : T3 → Bool} {xs : List T3} {i : Int} (h : i ∈ idxIf f xs) : ∃ (k : Nat) (p : T3), i = (k : Int) ∧ xs[k]? = some p ∧ f p = true := by
  obtain ⟨k, p, e, hp, hf⟩ := idxFrom_mem xs 0 h
  exact ⟨k, p, by rw [e]; simp, hp, hf⟩
theorem idxFrom_lt {f : T3 → Bool} : ∀ (xs : List T3) (b : Nat), (idxFrom f b xs).Pairwise (· < ·)
  | [], b => List.Pairwise.nil
  | p :: xs, b => by
    simp only [idxFrom]
    split
    · refine List.pairwise_cons.2 ⟨fun j hj => ?_, idxFrom_lt xs _⟩
      obtain ⟨k, q, e, _⟩ := idxFrom_mem xs (b + 1) hj
      omega
    · exact idxFrom_lt xs _
theorem gates_mono {xs : List T3} (h : GatesOk xs) {i : Nat} : ∀ (j : Nat) {p q : T3}, i < j → xs[i]? = some p → xs[j]? = some q → p.a < q.a
  | 0, p, q, hij, _, _ => absurd hij (by omega)
  | j + 1, p, q, hij, hp, hq => by
    have h1 := h.2 (j + 1) q hq
    have hj : j < xs.length := by have := (List.getElem?_eq_some_iff.1 hq).1; omega
    have e := List.getElem?_eq_getElem hj
    have h2 := h1.2.1
    rw [lastM_next e] at h2
    by_cases hi : i = j
    · subst hi; rw [e] at hp; injection hp with hp; rw [← hp]; exact h2
    · have := gates_mono h j (by omega) hp e
      omega
theorem idxIf_asc {f : T3 → Bool} {xs : List T3} (h : GatesOk xs) : Asc (gAt xs) (idxIf f xs) := by
  refine ⟨(idxFrom_lt xs 0).imp_of_mem fun {i j} hi hj hij => ⟨hij, ?_⟩, fun i hi => ?_⟩
  · obtain ⟨k, p, rfl, hp, _⟩ := idxIf_mem hi
    obtain ⟨m, q, rfl, hq, _⟩ := idxIf_mem hj
    rw [gAt_at hp, gAt_at hq]
    exact gates_mono h m (by omega) hp hq
  · obtain ⟨k, p, rfl, hp, _⟩ := idxIf_mem hi
    rw [gAt_at hp]
    exact (h.2 k p hp).1
/-- The gate with an index of the way. -/
theorem gate_of {f : T3 → Bool} {xs : List T3} (h : GatesOk xs) {i : Int} (hi : i ∈ idxIf f xs) :
    ∃ k : Nat, i = (k : Int) ∧ k < xs.length ∧ xs[k]? = some (gAt xs i) ∧ 0 ≤ (gAt xs i).a ∧ (gAt xs i).a ≤ 999 ∧ 0 ≤ (gAt xs i).b ∧ (gAt xs i).b ≤ 3 ∧ 1 ≤ (gAt xs i).c ∧ (gAt xs i).c ≤ 99 := by
  obtain ⟨k, p, rfl, hp, _⟩ := idxIf_mem hi
  have hg := h.2 k p hp
  unfold GOk at hg
  rw [gAt_at hp]
  exact ⟨k, rfl, (List.getElem?_eq_some_iff.1 hp).1, hp, by omega, by omega, by omega, by omega, by omega, by omega⟩

/-- The payments of who pays where it must. -/
def must (g : Int → T3) (free : Int) (ps : List Int) : List Int := ps.foldl (fun out i => if (g i).a ≤ tk g free out (g i).b then out else out ++ [i]) []
theorem must_next {g : Int → T3} {free : Int} {ps : List Int} {k : Nat} {i : Int} (h : ps[k]? = some i) :
    must g free (ps.take (k + 1)) = if (g i).a ≤ tk g free (must g free (ps.take k)) (g i).b then must g free (ps.take k) else must g free (ps.take k) ++ [i] := by
  rw [take_next h]; unfold must; rw [List.foldl_append]; rfl
theorem must_sub {g : Int → T3} {free : Int} (ps : List Int) : ∀ k, k ≤ ps.length → (must g free (ps.take k)).Sublist (ps.take k)
  | 0, _ => by simp [must]
  | k + 1, hk => by
    have e := List.getElem?_eq_getElem (show k < ps.length by omega)
    rw [must_next e, take_next e]
    split
    · exact (must_sub ps k (by omega)).trans (List.sublist_append_left _ _)
    · exact (must_sub ps k (by omega)).append (List.Sublist.refl _)
/-- Whether a gate is free behind payments at gates ahead of it. -/
theorem ahead_tk {g : Int → T3} {free : Int} {ps done : List Int} {k : Nat} {i : Int} (hps : Asc g ps) (hf : 0 ≤ free) (hd : done.Sublist (ps.take k)) (hk : ps[k]? = some i) : (g i).a ≤ tk g free done (g i).b ↔ Freed g free done i := by
  have hk' := (List.getElem?_eq_some_iff.1 hk)
  have hpw := asc_lt hps
  rw [← List.take_append_drop k ps, List.drop_eq_getElem_cons hk'.1, hk'.2] at hpw
  have hpw' := List.pairwise_append.1 hpw
  exact freed_tk (hps.1.sublist (hd.trans (List.take_sublist _ _))) (fun x hx => ⟨hpw'.2.2 x (hd.subset hx) i (List.mem_cons_self ..), hps.2 x (List.mem_of_mem_take (hd.subset hx))⟩) hf (hps.2 i (List.mem_of_getElem? hk))
theorem tk_bd {g : Int → T3} {free : Int} (hf : 0 ≤ free ∧ free ≤ 999) (t : Int) : ∀ (done : List Int) (c : Int), (-1 ≤ c ∧ c ≤ 1998) → (∀ i ∈ done, 0 ≤ (g i).a ∧ (g i).a ≤ 999) → -1 ≤ done.foldl (fun c k => if (g k).b = t then (g k).a + free else c) c ∧ done.foldl (fun c k => if (g k).b = t then (g k).a + free else c) c ≤ 1998
  | [], c, hc, _ => hc
  | i :: done, c, hc, h => by
    have hi := h i (List.mem_cons_self ..)
    simp only [List.foldl_cons]
    refine tk_bd hf t done _ ?_ (fun j hj => h j (List.mem_cons_of_mem _ hj))
    split <;> omega
/-- Sorted lists of the same numbers are one. -/
theorem sorted_eq : ∀ {a b : List Int}, a.Perm b → a.Pairwise (· ≤ ·) → b.Pairwise (· ≤ ·) → a = b
  | [], b, h, _, _ => (List.nil_perm.1 h).symm
  | x :: a, [], h, _, _ => absurd (List.perm_nil.1 h) (by simp)
  | x :: a, y :: b, h, ha, hb => by
    have ha' := List.pairwise_cons.1 ha
    have hb' := List.pairwise_cons.1 hb
    have hx : x ∈ y :: b := h.subset (List.mem_cons_self ..)
    have hy : y ∈ x :: a := h.symm.subset (List.mem_cons_self ..)
    have e : x = y := by
      rcases List.mem_cons.1 hx with e | hx
      · exact e
      · rcases List.mem_cons.1 hy with e | hy
        · exact e.symm
        · have h1 := hb'.1 x hx
          have h2 := ha'.1 y hy
          omega
    subst e
    rw [sorted_eq (List.Perm.cons_inv h) ha'.2 hb'.2]
/-- A list of gates, trust by trust. -/
theorem flt_perm {g : Int → T3} (ps : List Int) (h : ∀ i ∈ ps, 0 ≤ (g i).b ∧ (g i).b ≤ 3) : ps.Perm (flt g 0 ps ++ flt g 1 ps ++ flt g 2 ps ++ flt g 3 ps) := by
  rw [List.perm_iff_count]
  intro a
  simp only [List.count_append, flt]
  by_cases ha : a ∈ ps
  · have hb := h a ha
    have hc : ∀ t : Int, (ps.filter fun i => decide ((g i).b = t)).count a = if (g a).b = t then ps.count a else 0 := by
      intro t
      split
      · rename_i ht; exact List.count_filter (by simpa using ht)
      · rename_i ht; exact List.count_eq_zero.2 (fun hm => ht (by simpa using (List.mem_filter.1 hm).2))
    rw [hc, hc, hc, hc]
    rcases trust4 hb with e | e | e | e <;> simp [e]
  · have hn : ∀ t : Int, (ps.filter fun i => decide ((g i).b = t)).count a = 0 := fun t => List.count_eq_zero.2 fun hm => ha (List.mem_filter.1 hm).1
    rw [hn, hn, hn, hn, List.count_eq_zero.2 ha]
end Go.Proofs.Ytngbpdijempkpaa
