/- The least sum of a way, as the laws speak of it. -/
import Derived.Test.YtngbpdijempkpaaTWalkG
import Derived.Test.YtngbpdijempkpaaTPlainF
set_option linter.unusedVariables false
namespace Go.Proofs.Ytngbpdijempkpaa
open Go.RowKit

def LV (xs : List T3) (free f t : Int) : Int := least (gAt xs) free (idxIf (inW f t) xs) (fun _ => -1)
theorem lv_eq (xs : List T3) (free f t : Int) : LV xs free f t = leastG free (xs.filter (inW f t)) (fun _ => -1) := by unfold LV; rw [least_map, idxIf_map]
theorem leastG_top {free : Int} : ∀ (l : List T3) (c : Int → Int), (∀ p ∈ l, 1 ≤ p.c ∧ p.c ≤ 99) → leastG free l c ≤ 99 * l.length
  | [], _, _ => by simp [leastG]
  | p :: l, c, h => by
    have h0 := h p (List.mem_cons_self ..)
    have h1 := leastG_top (free := free) l (fun t => if p.b = t then p.a + free else c t) fun q hq => h q (List.mem_cons_of_mem _ hq)
    have h2 := leastG_top (free := free) l c fun q hq => h q (List.mem_cons_of_mem _ hq)
    simp only [leastG, List.length_cons]
    split <;> omega
theorem lv_bd {xs : List T3} (hG : GatesOk xs) (free f t : Int) : 0 ≤ LV xs free f t ∧ LV xs free f t ≤ 990 := by
  obtain ⟨h1, h2, -⟩ := gates_iff.1 hG
  have hm : ∀ p ∈ xs.filter (inW f t), 1 ≤ p.c ∧ p.c ≤ 99 := fun p hp => by
    have := h2 p (List.mem_filter.1 hp).1
    unfold GBd at this
    omega
  have h3 := leastG_nonneg (free := free) _ (fun _ => -1) (fun p hp => (hm p hp).1)
  have h4 := leastG_top (free := free) _ (fun _ => -1) hm
  have h5 := List.length_filter_le (inW f t) xs
  rw [lv_eq]
  omega
theorem lv_more (xs : List T3) (free f t : Int) : LV xs (free + 1) f t ≤ LV xs free f t := by
  rw [lv_eq, lv_eq]
  exact leastG_mono (by omega) _ _ _ (fun _ => Int.le_refl _)
theorem filter_none {f t : Int} (h : t ≤ f) (xs : List T3) : xs.filter (inW f t) = [] := by
  rw [List.filter_eq_nil_iff]
  intro p _
  simp [inW]
  omega
theorem lv_parts {xs : List T3} {free f t m : Int} (hG : GatesOk xs) (hf : 0 ≤ free) (h1 : f ≤ m) (h2 : m ≤ t ∨ (t ≤ f ∧ m = f)) : LV xs free f m ≤ LV xs free f t ∧ LV xs free f t ≤ LV xs free f m + LV xs free m t := by
  obtain ⟨-, hb, hp⟩ := gates_iff.1 hG
  have hc : ∀ g u, ∀ p ∈ xs.filter (inW g u), 1 ≤ p.c ∧ 0 ≤ p.a := fun g u p hp => by
    have := hb p (List.mem_filter.1 hp).1
    unfold GBd at this
    omega
  rw [lv_eq, lv_eq, lv_eq]
  rcases h2 with h2 | ⟨h2, rfl⟩
  · rw [filter_cut h1 h2 xs hp]
    exact ⟨leastG_pre _ _ _ (fun p hp => (hc _ _ p hp).1), leastG_split hf _ _ _ (fun _ => Int.le_refl _) (fun p hp => (hc _ _ p hp).2)⟩
  · rw [filter_none h2, filter_none (Int.le_refl _)]
    simp [leastG]

theorem least_a {A : Option Addr} {len c : Nat} {xs : List T3} {free x y : Int} {L0 : Int} (m : Int) (W : World) (hS : SlE 3 enc3 W A len xs) (hn : len ≤ 1048576) (hG : GatesOk xs) (hL : LV xs free x y = L0) (hf : 0 ≤ free ∧ free ≤ 999) (hx : 0 ≤ x ∧ x ≤ 1000) (hm : 0 ≤ m ∧ m ≤ 1000) (h1 : x ≤ m) (h2 : m ≤ y ∨ (y ≤ x ∧ m = x)) :
    Calls Try.prog 29 #[.slice A len c, .int .i64 free, .int .i64 x, .int .i64 m] W (fun e w' => ∃ a, e = .returned (.int .i64 a) ∧ 0 ≤ a ∧ a ≤ 990 ∧ a ≤ L0 ∧ (∀ b, b = LV xs free m y → L0 ≤ a + b) ∧ Below W.heap.size W w') := by
  refine (implTollLeast_any A len c xs free x m (LV xs free x m) W hS hn (.inl ⟨⟨⟨hG, hx, hm⟩, hf⟩, rfl⟩)).mono ?_
  rintro e w' ⟨rfl, hb⟩
  have hp := lv_parts (free := free) hG hf.1 h1 h2
  have hbd := lv_bd hG free x m
  exact ⟨_, rfl, hbd.1, hbd.2, by rw [← hL]; exact hp.1, fun b h => by rw [h, ← hL]; exact hp.2, hb⟩
theorem least_b {A : Option Addr} {len c : Nat} {xs : List T3} {free y : Int} (m : Int) (W : World) (hS : SlE 3 enc3 W A len xs) (hn : len ≤ 1048576) (hG : GatesOk xs) (hf : 0 ≤ free ∧ free ≤ 999) (hm : 0 ≤ m ∧ m ≤ 1000) (hy : 0 ≤ y ∧ y ≤ 1000) :
    Calls Try.prog 29 #[.slice A len c, .int .i64 free, .int .i64 m, .int .i64 y] W (fun e w' => ∃ b, e = .returned (.int .i64 b) ∧ 0 ≤ b ∧ b ≤ 990 ∧ b = LV xs free m y ∧ Below W.heap.size W w') := by
  refine (implTollLeast_any A len c xs free m y (LV xs free m y) W hS hn (.inl ⟨⟨⟨hG, hm, hy⟩, hf⟩, rfl⟩)).mono ?_
  rintro e w' ⟨rfl, hb⟩
  have hbd := lv_bd hG free m y
  exact ⟨_, rfl, hbd.1, hbd.2, rfl, hb⟩
end Go.Proofs.Ytngbpdijempkpaa
