/- Plain mathematics of tolls: payments, tickets, the least sum. -/
import Derived.Test.YtngbpdijempkpaaGPlain
set_option linter.unusedVariables false
namespace Go.Proofs.Ytngbpdijempkpaa

/-- The gate with an index. -/
def gAt (xs : List T3) (i : Int) : T3 := xs.getD i.toNat ⟨0, 0, 0⟩
theorem gAt_at {xs : List T3} {k : Nat} {p : T3} (h : xs[k]? = some p) : gAt xs k = p := by simp [gAt, h]

section
variable (g : Int → T3) (free : Int)
/-- A payment ahead frees the gate. -/
def Freed (paid : List Int) (i : Int) : Prop := ∃ k ∈ paid, k < i ∧ (g k).b = (g i).b ∧ (g i).a - (g k).a ≤ free
/-- The tickets behind some payments: up to which mile gates of a trust are free. -/
def tk (done : List Int) (t : Int) : Int := done.foldl (fun c k => if (g k).b = t then (g k).a + free else c) (-1)
/-- Tickets with one payment more. -/
def up (c : Int → Int) (i : Int) : Int → Int := fun t => if (g i).b = t then (g i).a + free else c t
/-- Indexes ascend, and their miles. -/
def Asc (ps : List Int) : Prop := ps.Pairwise (fun i j => i < j ∧ (g i).a < (g j).a) ∧ ∀ i ∈ ps, 0 ≤ (g i).a
/-- Payments of a way. -/
def Pays (ps paid : List Int) : Prop := paid.Sublist ps ∧ ∀ i ∈ ps, i ∈ paid ∨ Freed g free paid i
end

section
variable {g : Int → T3} {free : Int}
theorem tk_snoc (done : List Int) (i : Int) : tk g free (done ++ [i]) = up g free (tk g free done) i := by
  funext t
  simp [tk, up, List.foldl_append]
theorem fold_le (t A : Int) : ∀ (done : List Int) (c0 : Int), (∀ k ∈ done, (g k).b = t → c0 ≤ (g k).a + free) → done.Pairwise (fun i j => i < j ∧ (g i).a < (g j).a) →
    (A ≤ done.foldl (fun c k => if (g k).b = t then (g k).a + free else c) c0 ↔ A ≤ c0 ∨ ∃ k ∈ done, (g k).b = t ∧ A ≤ (g k).a + free)
  | [], c0, _, _ => by simp
  | k :: done, c0, hc, hp => by
    rw [List.pairwise_cons] at hp
    simp only [List.foldl_cons]
    by_cases hk : (g k).b = t
    · rw [if_pos hk, fold_le t A done _ (fun j hj _ => by have := (hp.1 j hj).2; omega) hp.2]
      have h0 := hc k (List.mem_cons_self ..) hk
      constructor
      · rintro (h | ⟨j, hj, h⟩)
        · exact .inr ⟨k, List.mem_cons_self .., hk, h⟩
        · exact .inr ⟨j, List.mem_cons_of_mem _ hj, h⟩
      · rintro (h | ⟨j, hj, h1, h2⟩)
        · exact .inl (by omega)
        · rcases List.mem_cons.1 hj with rfl | hj
          · exact .inl h2
          · exact .inr ⟨j, hj, h1, h2⟩
    · rw [if_neg hk, fold_le t A done c0 (fun j hj h => hc j (List.mem_cons_of_mem _ hj) h) hp.2]
      constructor
      · rintro (h | ⟨j, hj, h⟩)
        · exact .inl h
        · exact .inr ⟨j, List.mem_cons_of_mem _ hj, h⟩
      · rintro (h | ⟨j, hj, h1, h2⟩)
        · exact .inl h
        · rcases List.mem_cons.1 hj with rfl | hj
          · exact absurd h1 hk
          · exact .inr ⟨j, hj, h1, h2⟩
/-- A ticket frees a gate just if a payment ahead does. -/
theorem freed_tk {done : List Int} {i : Int} (hp : done.Pairwise (fun i j => i < j ∧ (g i).a < (g j).a)) (hd : ∀ k ∈ done, k < i ∧ 0 ≤ (g k).a) (hf : 0 ≤ free) (hi : 0 ≤ (g i).a) :
    (g i).a ≤ tk g free done (g i).b ↔ Freed g free done i := by
  unfold tk
  rw [fold_le (g i).b (g i).a done (-1) (fun k hk _ => by have := (hd k hk).2; omega) hp]
  constructor
  · rintro (h | ⟨k, hk, h1, h2⟩)
    · omega
    · exact ⟨k, hk, (hd k hk).1, h1, by omega⟩
  · rintro ⟨k, hk, _, h1, h2⟩
    exact .inr ⟨k, hk, h1, by omega⟩
theorem Freed.mono {a b : List Int} {i : Int} (h : Freed g free a i) (hs : ∀ k ∈ a, k ∈ b) : Freed g free b i := by
  obtain ⟨k, hk, h⟩ := h
  exact ⟨k, hs k hk, h⟩
theorem Asc.sub {a b : List Int} (h : Asc g b) (hs : a.Sublist b) : Asc g a := ⟨h.1.sublist hs, fun i hi => h.2 i (hs.subset hi)⟩
/-- Ascending lists: a part is a sublist. -/
theorem sub_of_asc : ∀ (b a : List Int), b.Pairwise (· < ·) → a.Pairwise (· < ·) → (∀ x ∈ a, x ∈ b) → a.Sublist b
  | [], a, _, _, h => by
    cases a with
    | nil => exact List.Sublist.slnil
    | cons x a => have := h x (List.mem_cons_self ..); simp at this
  | y :: b, [], _, _, _ => List.nil_sublist _
  | y :: b, x :: a, hb, ha, h => by
    have hb' := List.pairwise_cons.1 hb
    have ha' := List.pairwise_cons.1 ha
    by_cases e : x = y
    · subst e
      refine List.Sublist.cons_cons _ (sub_of_asc b a hb'.2 ha'.2 fun z hz => ?_)
      rcases List.mem_cons.1 (h z (List.mem_cons_of_mem _ hz)) with rfl | hz'
      · have := ha'.1 z hz; omega
      · exact hz'
    · refine List.Sublist.cons _ (sub_of_asc b (x :: a) hb'.2 ha fun z hz => ?_)
      have hx : y < x := by
        rcases List.mem_cons.1 (h x (List.mem_cons_self ..)) with rfl | hx
        · exact absurd rfl e
        · exact hb'.1 x hx
      rcases List.mem_cons.1 (h z hz) with rfl | hz'
      · rcases List.mem_cons.1 hz with rfl | hz''
        · omega
        · have := ha'.1 z hz''; omega
      · exact hz'
theorem asc_lt {ps : List Int} (h : Asc g ps) : ps.Pairwise (· < ·) := h.1.imp fun h => h.1

/-! ### Walking along the way with payments at hand -/
/-- n payments have been met at the first k gates. -/
def Met (g : Int → T3) (free : Int) (ps paid : List Int) (k n : Nat) : Prop :=
  n ≤ paid.length ∧ (paid.take n).Sublist (ps.take k) ∧ (∀ i ∈ ps.take k, i ∈ paid.take n ∨ Freed g free (paid.take n) i) ∧ (Pays g free ps paid → (paid.drop n).Sublist (ps.drop k))
theorem met_start (ps paid : List Int) : Met g free ps paid 0 0 := ⟨Nat.zero_le _, by simp, by simp, fun h => h.1⟩
theorem met_pay {ps paid : List Int} {k n : Nat} {i : Int} (h : Met g free ps paid k n) (hk : ps[k]? = some i) (hn : paid[n]? = some i) : Met g free ps paid (k + 1) (n + 1) := by
  obtain ⟨h0, h1, h2, h3⟩ := h
  have ek := take_next hk
  have en := take_next hn
  have hn' := (List.getElem?_eq_some_iff.1 hn)
  have hk' := (List.getElem?_eq_some_iff.1 hk)
  refine ⟨hn'.1, ?_, fun j hj => ?_, fun hP => ?_⟩
  · rw [ek, en]; exact h1.append (List.Sublist.refl _)
  · rw [ek, List.mem_append] at hj
    rw [en]
    rcases hj with hj | hj
    · rcases h2 j hj with h | h
      · exact .inl (List.mem_append_left _ h)
      · exact .inr (h.mono fun x hx => List.mem_append_left _ hx)
    · exact .inl (List.mem_append_right _ hj)
  · have := h3 hP
    rw [List.drop_eq_getElem_cons hk'.1, List.drop_eq_getElem_cons hn'.1, hk'.2, hn'.2] at this
    exact List.cons_sublist_cons.1 this
theorem met_free {ps paid : List Int} {k n : Nat} {i : Int} (h : Met g free ps paid k n) (hk : ps[k]? = some i) (hn : paid[n]? ≠ some i) (hf : Freed g free (paid.take n) i) : Met g free ps paid (k + 1) n := by
  obtain ⟨h0, h1, h2, h3⟩ := h
  have ek := take_next hk
  have hk' := (List.getElem?_eq_some_iff.1 hk)
  refine ⟨h0, ?_, fun j hj => ?_, fun hP => ?_⟩
  · rw [ek]; exact h1.trans (List.sublist_append_left _ _)
  · rw [ek, List.mem_append, List.mem_singleton] at hj
    rcases hj with hj | rfl
    · exact h2 j hj
    · exact .inr hf
  · have := h3 hP
    rw [List.drop_eq_getElem_cons hk'.1, hk'.2] at this
    rcases Nat.lt_or_ge n paid.length with hl | hl
    · rw [List.drop_eq_getElem_cons hl] at this ⊢
      cases this with
      | cons _ h => exact h
      | cons_cons _ h => exact absurd (List.getElem?_eq_getElem hl) hn
    · rw [List.drop_eq_nil_of_le hl]; exact List.nil_sublist _
theorem met_end {ps paid : List Int} {n : Nat} (h : Met g free ps paid ps.length n) : Pays g free ps paid ↔ n = paid.length := by
  obtain ⟨h0, h1, h2, h3⟩ := h
  rw [List.take_length] at h1 h2
  constructor
  · intro hP
    have := h3 hP
    rw [List.drop_length] at this
    have e := List.eq_nil_of_sublist_nil this
    have := congrArg List.length e
    rw [List.length_drop] at this
    simp at this
    omega
  · rintro rfl
    rw [List.take_length] at h1 h2
    exact ⟨h1, h2⟩
/-- Where neither a payment nor a ticket is at hand there are no payments of the way. -/
theorem met_stuck {ps paid : List Int} {k n : Nat} {i : Int} (hps : Asc g ps) (h : Met g free ps paid k n) (hk : ps[k]? = some i) (hn : paid[n]? ≠ some i) (hf : ¬ Freed g free (paid.take n) i) : ¬ Pays g free ps paid := by
  intro hP
  obtain ⟨h0, h1, h2, h3⟩ := h
  have h4 := h3 hP
  have hk' := (List.getElem?_eq_some_iff.1 hk)
  have hpw := asc_lt hps
  rw [← List.take_append_drop k ps, List.drop_eq_getElem_cons hk'.1, hk'.2] at hpw
  have hpw' := List.pairwise_append.1 hpw
  have hpc := List.pairwise_cons.1 hpw'.2.1
  -- payments behind are beyond i
  have hd : ∀ x ∈ paid.drop n, i < x := by
    rw [List.drop_eq_getElem_cons hk'.1, hk'.2] at h4
    rcases Nat.lt_or_ge n paid.length with hl | hl
    · rw [List.drop_eq_getElem_cons hl] at h4 ⊢
      cases h4 with
      | cons _ h => exact fun x hx => hpc.1 x (h.subset hx)
      | cons_cons _ h => exact absurd (List.getElem?_eq_getElem hl) hn
    · rw [List.drop_eq_nil_of_le hl]; intro x hx; simp at hx
  rcases hP.2 i (List.mem_of_getElem? hk) with hi | ⟨x, hx, hxi, hx'⟩
  · rw [← List.take_append_drop n paid, List.mem_append] at hi
    rcases hi with hi | hi
    · have := hpw'.2.2 i (h1.subset hi) i (List.mem_cons_self ..); omega
    · have := hd i hi; omega
  · rw [← List.take_append_drop n paid, List.mem_append] at hx
    rcases hx with hx | hx
    · exact hf ⟨x, hx, hxi, hx'⟩
    · have := hd x hx; omega
theorem met_tk {ps paid : List Int} {k n : Nat} {i : Int} (hps : Asc g ps) (hf : 0 ≤ free) (h : Met g free ps paid k n) (hk : ps[k]? = some i) : (g i).a ≤ tk g free (paid.take n) (g i).b ↔ Freed g free (paid.take n) i := by
  have hk' := (List.getElem?_eq_some_iff.1 hk)
  have hpw := asc_lt hps
  rw [← List.take_append_drop k ps, List.drop_eq_getElem_cons hk'.1, hk'.2] at hpw
  have hpw' := List.pairwise_append.1 hpw
  exact freed_tk (hps.1.sublist (h.2.1.trans (List.take_sublist _ _))) (fun x hx => ⟨hpw'.2.2 x (h.2.1.subset hx) i (List.mem_cons_self ..), hps.2 x (List.mem_of_mem_take (h.2.1.subset hx))⟩) hf (hps.2 i (List.mem_of_getElem? hk))
/-- What the reference asks of payments one by one. -/
theorem pays_asc {ps paid : List Int} (hps : Asc g ps) (h : Pays g free ps paid) : paid.Pairwise (· < ·) ∧ ∀ x ∈ paid, x ∈ ps := ⟨(asc_lt hps).sublist h.1, fun x hx => h.1.subset hx⟩
theorem pays_of {ps paid : List Int} (hps : Asc g ps) (ha : paid.Pairwise (· < ·)) (hm : ∀ x ∈ paid, x ∈ ps) (h : ∀ i ∈ ps, i ∈ paid ∨ Freed g free paid i) : Pays g free ps paid := ⟨sub_of_asc _ _ (asc_lt hps) ha hm, h⟩
end
end Go.Proofs.Ytngbpdijempkpaa
