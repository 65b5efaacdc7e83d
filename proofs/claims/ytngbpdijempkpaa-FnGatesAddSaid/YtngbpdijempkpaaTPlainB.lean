/- Plain mathematics of tolls: the least sum, all at once and trust by trust; the best payments. -/
import Derived.Test.YtngbpdijempkpaaTPlain
set_option linter.unusedVariables false
namespace Go.Proofs.Ytngbpdijempkpaa

section
variable (g : Int → T3) (free : Int)
/-- The least sum from here on, under some tickets. -/
def least : List Int → (Int → Int) → Int
  | [], _ => 0
  | i :: ps, c => if (g i).a ≤ c (g i).b then min ((g i).c + least ps (up g free c i)) (least ps c) else (g i).c + least ps (up g free c i)
/-- The same at gates of one trust. -/
def least1 : List Int → Int → Int
  | [], _ => 0
  | i :: ps, c => if (g i).a ≤ c then min ((g i).c + least1 ps ((g i).a + free)) (least1 ps c) else (g i).c + least1 ps ((g i).a + free)
/-- The best payments from here on. -/
def best : List Int → (Int → Int) → List Int
  | [], _ => []
  | i :: ps, c => if (g i).c + least g free ps (up g free c i) = least g free (i :: ps) c then i :: best ps (up g free c i) else best ps c
def best1 : List Int → Int → List Int
  | [], _ => []
  | i :: ps, c => if (g i).c + least1 g free ps ((g i).a + free) = least1 g free (i :: ps) c then i :: best1 ps ((g i).a + free) else best1 ps c
/-- The gates of a trust. -/
def flt (t : Int) (ps : List Int) : List Int := ps.filter fun i => decide ((g i).b = t)
/-- The sum of tolls. -/
def sumC (ps : List Int) : Int := (ps.map fun i => (g i).c).sum
/-- The least sum from a gate on that is paid. -/
def pathS : List Int → Int
  | [] => 0
  | i :: ps => (g i).c + least1 g free ps ((g i).a + free)
/-- The best payments from a gate on that is paid. -/
def path : List Int → List Int
  | [] => []
  | i :: ps => i :: best1 g free ps ((g i).a + free)
end

section
variable {g : Int → T3} {free : Int}
theorem flt_cons_yes {t i : Int} {ps : List Int} (h : (g i).b = t) : flt g t (i :: ps) = i :: flt g t ps := by simp [flt, h]
theorem flt_cons_no {t i : Int} {ps : List Int} (h : ¬ (g i).b = t) : flt g t (i :: ps) = flt g t ps := by simp [flt, h]
theorem up_yes {c : Int → Int} {i : Int} : up g free c i (g i).b = (g i).a + free := by simp [up]
theorem up_no {c : Int → Int} {i t : Int} (h : ¬ (g i).b = t) : up g free c i t = c t := by simp [up, h]
/-- The sum of the least sums of the four trusts. -/
def sum4 (g : Int → T3) (free : Int) (ps : List Int) (c : Int → Int) : Int := least1 g free (flt g 0 ps) (c 0) + least1 g free (flt g 1 ps) (c 1) + least1 g free (flt g 2 ps) (c 2) + least1 g free (flt g 3 ps) (c 3)
theorem trust4 {b : Int} (h : 0 ≤ b ∧ b ≤ 3) : b = 0 ∨ b = 1 ∨ b = 2 ∨ b = 3 := by omega
theorem sum4_up {i : Int} {ps : List Int} {c : Int → Int} (h : 0 ≤ (g i).b ∧ (g i).b ≤ 3) :
    sum4 g free ps (up g free c i) = sum4 g free ps c - least1 g free (flt g (g i).b ps) (c (g i).b) + least1 g free (flt g (g i).b ps) ((g i).a + free) := by
  unfold sum4
  rcases trust4 h with e | e | e | e <;> simp only [e] <;> (rw [← e]; simp only [up_yes]; rw [e])
  · rw [up_no (by omega : ¬ (g i).b = 1), up_no (by omega : ¬ (g i).b = 2), up_no (by omega : ¬ (g i).b = 3), ← e]; omega
  · rw [up_no (by omega : ¬ (g i).b = 0), up_no (by omega : ¬ (g i).b = 2), up_no (by omega : ¬ (g i).b = 3), ← e]; omega
  · rw [up_no (by omega : ¬ (g i).b = 0), up_no (by omega : ¬ (g i).b = 1), up_no (by omega : ¬ (g i).b = 3), ← e]; omega
  · rw [up_no (by omega : ¬ (g i).b = 0), up_no (by omega : ¬ (g i).b = 1), up_no (by omega : ¬ (g i).b = 2), ← e]; omega
theorem sum4_cons {i : Int} {ps : List Int} {c : Int → Int} (h : 0 ≤ (g i).b ∧ (g i).b ≤ 3) :
    sum4 g free (i :: ps) c = sum4 g free ps c - least1 g free (flt g (g i).b ps) (c (g i).b) + least1 g free (i :: flt g (g i).b ps) (c (g i).b) := by
  unfold sum4
  rcases trust4 h with e | e | e | e
  · rw [flt_cons_yes e, flt_cons_no (by omega : ¬ (g i).b = 1), flt_cons_no (by omega : ¬ (g i).b = 2), flt_cons_no (by omega : ¬ (g i).b = 3), e]; omega
  · rw [flt_cons_yes e, flt_cons_no (by omega : ¬ (g i).b = 0), flt_cons_no (by omega : ¬ (g i).b = 2), flt_cons_no (by omega : ¬ (g i).b = 3), e]; omega
  · rw [flt_cons_yes e, flt_cons_no (by omega : ¬ (g i).b = 0), flt_cons_no (by omega : ¬ (g i).b = 1), flt_cons_no (by omega : ¬ (g i).b = 3), e]; omega
  · rw [flt_cons_yes e, flt_cons_no (by omega : ¬ (g i).b = 0), flt_cons_no (by omega : ¬ (g i).b = 1), flt_cons_no (by omega : ¬ (g i).b = 2), e]; omega
/-- The least sum is the sum of the trusts' least sums. -/
theorem least_sum4 : ∀ (ps : List Int) (c : Int → Int), (∀ i ∈ ps, 0 ≤ (g i).b ∧ (g i).b ≤ 3) → least g free ps c = sum4 g free ps c
  | [], c, _ => by simp [least, sum4, flt, least1]
  | i :: ps, c, h => by
    have hi := h i (List.mem_cons_self ..)
    have hps := fun j hj => h j (List.mem_cons_of_mem _ hj)
    rw [sum4_cons hi]
    simp only [least, least1, least_sum4 ps _ hps, sum4_up hi]
    split
    · rw [Int.min_def, Int.min_def]
      split <;> split <;> omega
    · omega
/-- The best payments at a trust are the trust's best payments. -/
theorem best_flt (t : Int) : ∀ (ps : List Int) (c : Int → Int), (∀ i ∈ ps, 0 ≤ (g i).b ∧ (g i).b ≤ 3) → flt g t (best g free ps c) = best1 g free (flt g t ps) (c t)
  | [], c, _ => by simp [best, flt, best1]
  | i :: ps, c, h => by
    have hi := h i (List.mem_cons_self ..)
    have hps := fun j hj => h j (List.mem_cons_of_mem _ hj)
    have ih := fun c => best_flt t ps c hps
    have key : ((g i).c + least g free ps (up g free c i) = least g free (i :: ps) c) ↔ ((g i).c + least1 g free (flt g (g i).b ps) ((g i).a + free) = least1 g free (i :: flt g (g i).b ps) (c (g i).b)) := by
      rw [least_sum4 _ _ hps, least_sum4 (i :: ps) _ h, sum4_cons hi, sum4_up hi]
      omega
    by_cases ht : (g i).b = t
    · rw [flt_cons_yes ht]
      simp only [best, best1]
      rw [ht] at key
      by_cases hc : (g i).c + least g free ps (up g free c i) = least g free (i :: ps) c
      · rw [if_pos hc, if_pos (key.1 hc), flt_cons_yes ht, ih, ← ht, up_yes]
      · rw [if_neg hc, if_neg (fun h => hc (key.2 h)), ih]
    · rw [flt_cons_no ht]
      simp only [best]
      split
      · rw [flt_cons_no ht, ih, up_no ht]
      · exact ih c
theorem best_sub : ∀ (ps : List Int) (c : Int → Int), (best g free ps c).Sublist ps
  | [], c => by simp [best]
  | i :: ps, c => by
    simp only [best]
    split
    · exact (best_sub ps _).cons_cons _
    · exact (best_sub ps _).cons _
theorem best1_sub : ∀ (ps : List Int) (c : Int), (best1 g free ps c).Sublist ps
  | [], c => by simp [best1]
  | i :: ps, c => by
    simp only [best1]
    split
    · exact (best1_sub ps _).cons_cons _
    · exact (best1_sub ps _).cons _
theorem sumC_cons (i : Int) (ps : List Int) : sumC g (i :: ps) = (g i).c + sumC g ps := by simp [sumC]
theorem sumC_append (a b : List Int) : sumC g (a ++ b) = sumC g a + sumC g b := by simp [sumC]
/-- The best payments' sum is the least. -/
theorem sum_best : ∀ (ps : List Int) (c : Int → Int), sumC g (best g free ps c) = least g free ps c
  | [], c => by simp [best, sumC, least]
  | i :: ps, c => by
    simp only [best]
    split
    · rename_i h
      rw [sumC_cons, sum_best ps, h]
    · rename_i h
      rw [sum_best ps]
      simp only [least] at h ⊢
      split
      · rename_i hf
        rw [if_pos hf, Int.min_def] at h
        rw [Int.min_def]
        split at h
        · omega
        · rename_i hm; rw [if_neg hm]
      · rename_i hf
        rw [if_neg hf] at h
        exact absurd rfl h
theorem sum_best1 : ∀ (ps : List Int) (c : Int), sumC g (best1 g free ps c) = least1 g free ps c
  | [], c => by simp [best1, sumC, least1]
  | i :: ps, c => by
    simp only [best1]
    split
    · rename_i h
      rw [sumC_cons, sum_best1 ps, h]
    · rename_i h
      rw [sum_best1 ps]
      simp only [least1] at h ⊢
      split
      · rename_i hf
        rw [if_pos hf, Int.min_def] at h
        rw [Int.min_def]
        split at h
        · omega
        · rename_i hm; rw [if_neg hm]
      · rename_i hf
        rw [if_neg hf] at h
        exact absurd rfl h

/-! ### The next payment, found by a search -/
theorem least1_le (l : List Int) (c : Int) : least1 g free l c ≤ pathS g free l := by
  cases l with
  | nil => simp [least1, pathS]
  | cons i ps =>
    simp only [least1, pathS]
    split
    · exact Int.min_le_left _ _
    · exact Int.le_refl _
/-- nx is the first of the places from k to J with the least sum behind it, all gates on the way there being free. -/
def Seek (g : Int → T3) (free : Int) (h : List Int) (c : Int) (k J nx : Nat) : Prop :=
  k ≤ nx ∧ nx ≤ J ∧ J ≤ h.length ∧ (∀ j, k ≤ j → j < J → ∀ i, h[j]? = some i → (g i).a ≤ c) ∧ (∀ j, k ≤ j → j ≤ J → pathS g free (h.drop nx) ≤ pathS g free (h.drop j)) ∧
    (∀ j, k ≤ j → j < nx → pathS g free (h.drop nx) < pathS g free (h.drop j)) ∧ least1 g free (h.drop k) c = min (pathS g free (h.drop nx)) (least1 g free (h.drop J) c)
theorem seek_start {h : List Int} {c : Int} {k : Nat} (hk : k ≤ h.length) : Seek g free h c k k k := by
  refine ⟨Nat.le_refl _, Nat.le_refl _, hk, fun j a b => absurd b (by omega), fun j a b => ?_, fun j a b => absurd b (by omega), ?_⟩
  · have : j = k := by omega
    rw [this]; exact Int.le_refl _
  · exact (Int.min_eq_right (least1_le _ _)).symm
theorem seek_step {h : List Int} {c : Int} {k J nx : Nat} {i : Int} (s : Seek g free h c k J nx) (hi : h[J]? = some i) (hc : (g i).a ≤ c) :
    Seek g free h c k (J + 1) (if pathS g free (h.drop (J + 1)) < pathS g free (h.drop nx) then J + 1 else nx) := by
  obtain ⟨h0, h1, h2, h3, h4, h5, h6⟩ := s
  have hl := (List.getElem?_eq_some_iff.1 hi)
  have e : least1 g free (h.drop J) c = min (pathS g free (h.drop J)) (least1 g free (h.drop (J + 1)) c) := by
    rw [List.drop_eq_getElem_cons hl.1, hl.2]
    simp only [least1, pathS, if_pos hc]
  have hle := h4 J (by omega) (by omega)
  have hS := least1_le (g := g) (free := free) (h.drop (J + 1)) c
  split
  · rename_i hlt
    refine ⟨by omega, by omega, hl.1, fun j a b q hq => ?_, fun j a b => ?_, fun j a b => ?_, ?_⟩
    · by_cases ej : j = J
      · subst ej; rw [hi] at hq; injection hq with hq; rw [← hq]; exact hc
      · exact h3 j a (by omega) q hq
    · by_cases ej : j = J + 1
      · rw [ej]; exact Int.le_refl _
      · have := h4 j a (by omega); omega
    · have := h4 j a (by omega); omega
    · rw [h6, e]; omega
  · rename_i hlt
    refine ⟨h0, by omega, hl.1, fun j a b q hq => ?_, fun j a b => ?_, h5, ?_⟩
    · by_cases ej : j = J
      · subst ej; rw [hi] at hq; injection hq with hq; rw [← hq]; exact hc
      · exact h3 j a (by omega) q hq
    · by_cases ej : j = J + 1
      · rw [ej]; omega
      · exact h4 j a (by omega)
    · rw [h6, e]; omega
/-- The search is over at the first gate that is not free. -/
theorem seek_end {h : List Int} {c : Int} {k J nx : Nat} (s : Seek g free h c k J nx) (he : ∀ i, h[J]? = some i → ¬ (g i).a ≤ c) : least1 g free (h.drop k) c = pathS g free (h.drop nx) := by
  obtain ⟨h0, h1, h2, h3, h4, h5, h6⟩ := s
  have e : least1 g free (h.drop J) c = pathS g free (h.drop J) := by
    rcases Nat.lt_or_ge J h.length with hl | hl
    · rw [List.drop_eq_getElem_cons hl]
      simp only [least1, pathS, if_neg (he _ (List.getElem?_eq_getElem hl))]
    · rw [List.drop_eq_nil_of_le hl]; rfl
  rw [h6, e]
  have := h4 J (by omega) (by omega)
  exact Int.min_eq_left this
theorem best1_path {h : List Int} {c : Int} {nx : Nat} (hn : nx ≤ h.length) : ∀ (d k : Nat), k + d = nx → (∀ j, k ≤ j → j < nx → ∀ i, h[j]? = some i → (g i).a ≤ c) → (∀ j, k ≤ j → j < nx → pathS g free (h.drop nx) < pathS g free (h.drop j)) →
    least1 g free (h.drop k) c = pathS g free (h.drop nx) → best1 g free (h.drop k) c = path g free (h.drop nx)
  | 0, k, hk, _, _, hl => by
    obtain rfl : k = nx := by omega
    rcases Nat.lt_or_ge k h.length with hlt | hge
    · rw [List.drop_eq_getElem_cons hlt] at hl ⊢
      simp only [best1, path]
      rw [if_pos]
      rw [hl]; rfl
    · rw [List.drop_eq_nil_of_le hge]; rfl
  | d + 1, k, hk, hf, hs, hl => by
    have hlt : k < h.length := by omega
    have hfk := hf k (Nat.le_refl _) (by omega) _ (List.getElem?_eq_getElem hlt)
    have hsk := hs k (Nat.le_refl _) (by omega)
    rw [List.drop_eq_getElem_cons hlt] at hl hsk ⊢
    have hn' : ¬ (g h[k]).c + least1 g free (h.drop (k + 1)) ((g h[k]).a + free) = least1 g free (h[k] :: h.drop (k + 1)) c := by
      rw [hl]; have hsk2 : pathS g free (h.drop nx) < (g h[k]).c + least1 g free (h.drop (k + 1)) ((g h[k]).a + free) := hsk; omega
    simp only [best1, if_neg hn']
    refine best1_path hn d (k + 1) (by omega) (fun j a b => hf j (by omega) b) (fun j a b => hs j (by omega) b) ?_
    have hsk2 : pathS g free (h.drop nx) < (g h[k]).c + least1 g free (h.drop (k + 1)) ((g h[k]).a + free) := hsk
    simp only [least1, if_pos hfk] at hl
    omega
/-- What the search leaves: the next payment. -/
theorem seek_best {h : List Int} {c : Int} {k J nx : Nat} (s : Seek g free h c k J nx) (he : ∀ i, h[J]? = some i → ¬ (g i).a ≤ c) : best1 g free (h.drop k) c = path g free (h.drop nx) :=
  best1_path (Nat.le_trans s.2.1 s.2.2.1) (nx - k) k (by have := s.1; omega) (fun j a b => s.2.2.2.1 j a (by have := s.2.1; omega)) (s.2.2.2.2.2.1) (seek_end s he)
theorem best1_start {h : List Int} (hp : ∀ i ∈ h, 0 ≤ (g i).a) : best1 g free h (-1) = path g free h := by
  cases h with
  | nil => rfl
  | cons i ps =>
    have := hp i (List.mem_cons_self ..)
    have hl : least1 g free (i :: ps) (-1) = (g i).c + least1 g free ps ((g i).a + free) := by simp only [least1]; rw [if_neg (by omega)]
    simp only [best1, path]
    rw [if_pos hl.symm]
theorem pathS_least {h : List Int} (hp : ∀ i ∈ h, 0 ≤ (g i).a) : least1 g free h (-1) = pathS g free h := by
  cases h with
  | nil => rfl
  | cons i ps =>
    have := hp i (List.mem_cons_self ..)
    simp only [least1, pathS]
    rw [if_neg (by omega)]
end
end Go.Proofs.Ytngbpdijempkpaa
