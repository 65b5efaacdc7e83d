/- Plain mathematics of tolls: what the laws on TollEach, TollBest and TollSum say. -/
import Derived.Test.YtngbpdijempkpaaTPlainF
import Derived.Test.YtngbpdijempkpaaTWalkJ
import Derived.Test.YtngbpdijempkpaaTWalkS
set_option linter.unusedVariables false
namespace Go.Proofs.Ytngbpdijempkpaa

theorem each_at {g : Int → T3} {free : Int} {ps : List Int} {n t : Nat} (ht : t < n) : (each g free ps n)[t]? = some (least1 g free (flt g t ps) (-1)) := by
  unfold each
  rw [List.getElem?_map, List.getElem?_range ht]
  rfl
theorem each_sum {g : Int → T3} {free : Int} {ps : List Int} (h : ∀ i ∈ ps, 0 ≤ (g i).b ∧ (g i).b ≤ 3) : (each g free ps 4).sum = least g free ps (fun _ => -1) := by
  rw [least_sum4 ps _ h]
  unfold sum4
  simp only [each, List.range_succ, List.range_zero, List.nil_append, List.map_append, List.map_cons, List.map_nil, List.sum_append, List.sum_cons, List.sum_nil, Int.natCast_zero, Int.natCast_one]
  have e2 : (((2 : Nat)) : Int) = 2 := rfl
  have e3 : (((3 : Nat)) : Int) = 3 := rfl
  rw [e2, e3]
  omega
theorem sumC_flt_next {g : Int → T3} {t : Int} {ps : List Int} {k : Nat} {i : Int} (h : ps[k]? = some i) : sumC g (flt g t (ps.take (k + 1))) = sumC g (flt g t (ps.take k)) + if (g i).b = t then (g i).c else 0 := by
  have e : flt g t (ps.take (k + 1)) = flt g t (ps.take k) ++ if (g i).b = t then [i] else [] := by
    unfold flt
    rw [take_next h, List.filter_append]
    congr 1
    by_cases e : (g i).b = t <;> simp [e]
  rw [e, sumC_append]
  split <;> simp [sumC]
theorem each_law {g : Int → T3} {free : Int} {ps : List Int} (hf : 0 ≤ free) (ha : ∀ i ∈ ps, 0 ≤ (g i).a ∧ 1 ≤ (g i).c) (t : Int) :
    0 ≤ least1 g free (flt g t ps) (-1) ∧ least1 g free (flt g t ps) (-1) ≤ sumC g (flt g t ps) ∧ (least1 g free (flt g t ps) (-1) = 0 ↔ sumC g (flt g t ps) = 0) := by
  have hm : ∀ p ∈ (flt g t ps).map g, 1 ≤ p.c ∧ 0 ≤ p.a := fun p hp => by
    obtain ⟨i, hi, rfl⟩ := List.mem_map.1 hp
    have := ha i (List.mem_filter.1 hi).1
    omega
  have e : sumC g (flt g t ps) = (((flt g t ps).map g).map T3.c).sum := by
    unfold sumC
    rw [List.map_map]
    rfl
  have h1 := least1G_bd hf ((flt g t ps).map g) (-1) (fun p hp => (hm p hp).1)
  rw [e, least1_map]
  refine ⟨h1.1, h1.2, ?_⟩
  by_cases hn : (flt g t ps).map g = []
  · rw [hn]; simp [least1G]
  · have h2 := least1G_pos hf hn hm
    omega
theorem sumC_flt_le {g : Int → T3} (t : Int) (ps : List Int) (hc : ∀ i ∈ ps, 1 ≤ (g i).c ∧ (g i).c ≤ 99) : 0 ≤ sumC g (flt g t ps) ∧ sumC g (flt g t ps) ≤ 99 * ps.length := by
  have h1 := sumC_bd (g := g) (flt g t ps) (fun i hi => hc i (List.mem_filter.1 hi).1)
  have h2 := List.length_filter_le (fun i => decide ((g i).b = t)) ps
  unfold flt at *
  omega
end Go.Proofs.Ytngbpdijempkpaa
