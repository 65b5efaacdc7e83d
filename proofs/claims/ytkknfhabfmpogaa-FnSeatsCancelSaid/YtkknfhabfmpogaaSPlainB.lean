/- Plain mathematics of seatings: which seat is free, the plan of seats, and that it never passes the capacity. -/
import Derived.Test.YtkknfhabfmpogaaSPlain
set_option linter.unusedVariables false
namespace Go.Proofs.Ytkknfhabfmpogaa

/-- Two bookings of a kind with a leg in common. -/
def meetB (p q : B3) : Prop := p.c = q.c ∧ p.a < q.b ∧ q.a < p.b
instance (p q : B3) : Decidable (meetB p q) := by unfold meetB; exact inferInstance
/-- The number of seats of a kind. -/
def capOf (k : Bool) : Nat := if k = true then 4 else 6
theorem capOf_bd (k : Bool) : 4 ≤ capOf k ∧ capOf k ≤ 6 := by cases k <;> decide
/-- Seat s is taken for the booking p. -/
def blk : List B3 → List Int → B3 → Int → Bool
  | q :: xs, o :: out, p, s => (decide (o = s) && decide (meetB p q)) || blk xs out p s
  | _, _, _, _ => false
theorem blk_iff : ∀ (xs : List B3) (out : List Int) (p : B3) (s : Int), blk xs out p s = true ↔ ∃ (k : Nat) (q : B3), xs[k]? = some q ∧ out[k]? = some s ∧ meetB p q
  | [], out, p, s => by simp [blk]
  | q :: xs, [], p, s => by simp [blk]
  | q :: xs, o :: out, p, s => by
    simp only [blk, Bool.or_eq_true, Bool.and_eq_true, decide_eq_true_eq, blk_iff xs out p s]
    constructor
    · rintro (⟨h1, h2⟩ | ⟨k, r, h1, h2, h3⟩)
      · exact ⟨0, q, rfl, by rw [h1]; rfl, h2⟩
      · exact ⟨k + 1, r, h1, h2, h3⟩
    · rintro ⟨k, r, h1, h2, h3⟩
      cases k with
      | zero =>
        simp only [List.getElem?_cons_zero, Option.some.injEq] at h1 h2
        subst h1 h2
        exact .inl ⟨rfl, h3⟩
      | succ k => exact .inr ⟨k, r, h1, h2, h3⟩
theorem blk_no {xs : List B3} {out : List Int} {p : B3} {s : Int} (h : ¬ ∃ (k : Nat) (q : B3), xs[k]? = some q ∧ out[k]? = some s ∧ meetB p q) : blk xs out p s = false := by
  cases hb : blk xs out p s with
  | false => rfl
  | true => exact absurd ((blk_iff xs out p s).1 hb) h

/-! ### The least seat -/
def pickF (b : Int → Bool) : Nat → Nat → Nat
  | 0, s => s
  | f + 1, s => if b s = true then pickF b f (s + 1) else s
theorem pickF_bd (b : Int → Bool) : ∀ f s, s ≤ pickF b f s ∧ pickF b f s ≤ s + f
  | 0, s => by simp [pickF]
  | f + 1, s => by
    have := pickF_bd b f (s + 1)
    unfold pickF
    split <;> omega
theorem pickF_below (b : Int → Bool) : ∀ f s (t : Nat), s ≤ t → t < pickF b f s → b t = true
  | 0, s, t, h1, h2 => by unfold pickF at h2; omega
  | f + 1, s, t, h1, h2 => by
    unfold pickF at h2
    split at h2
    · rename_i h
      by_cases e : t = s
      · rw [e]; exact h
      · exact pickF_below b f (s + 1) t (by omega) h2
    · omega
theorem pickF_free (b : Int → Bool) : ∀ f s, pickF b f s < s + f → b (pickF b f s) = false
  | 0, s, h => by unfold pickF at h; omega
  | f + 1, s, h => by
    unfold pickF at h ⊢
    split
    · rename_i h1
      rw [if_pos h1] at h
      exact pickF_free b f (s + 1) (by omega)
    · rename_i h1
      simpa using h1
/-- One step: what the loop of the program looks at. -/
theorem pickF_step (b : Int → Bool) (f s : Nat) : pickF b (f + 1) s = if b s = true then pickF b f (s + 1) else s := rfl
def pick (xs : List B3) (out : List Int) (p : B3) : Nat := pickF (blk xs out p) (capOf p.c - 1) 0

/-! ### Counting -/
/-- Those of a kind on a leg with a seat below m. -/
def cnt : List B3 → List Int → Int → Bool → Int → Int
  | q :: xs, o :: out, leg, k, m => (if q.c = k ∧ q.a ≤ leg ∧ leg < q.b ∧ 0 ≤ o ∧ o < m then 1 else 0) + cnt xs out leg k m
  | _, _, _, _, _ => 0
/-- Those of a kind on a leg with the seat t. -/
def eqc : List B3 → List Int → Int → Bool → Int → Int
  | q :: xs, o :: out, leg, k, t => (if q.c = k ∧ q.a ≤ leg ∧ leg < q.b ∧ o = t then 1 else 0) + eqc xs out leg k t
  | _, _, _, _, _ => 0
theorem cnt_nonneg : ∀ (xs : List B3) (out : List Int) (leg : Int) (k : Bool) (m : Int), 0 ≤ cnt xs out leg k m
  | [], out, leg, k, m => by simp [cnt]
  | q :: xs, [], leg, k, m => by simp [cnt]
  | q :: xs, o :: out, leg, k, m => by
    have := cnt_nonneg xs out leg k m
    unfold cnt
    split <;> omega
theorem eqc_nonneg : ∀ (xs : List B3) (out : List Int) (leg : Int) (k : Bool) (m : Int), 0 ≤ eqc xs out leg k m
  | [], out, leg, k, m => by simp [eqc]
  | q :: xs, [], leg, k, m => by simp [eqc]
  | q :: xs, o :: out, leg, k, m => by
    have := eqc_nonneg xs out leg k m
    unfold eqc
    split <;> omega
theorem cnt_zero : ∀ (xs : List B3) (out : List Int) (leg : Int) (k : Bool), cnt xs out leg k 0 = 0
  | [], out, leg, k => by simp [cnt]
  | q :: xs, [], leg, k => by simp [cnt]
  | q :: xs, o :: out, leg, k => by
    have := cnt_zero xs out leg k
    unfold cnt
    rw [if_neg (fun h => by omega), this]
    rfl
theorem cnt_succ : ∀ (xs : List B3) (out : List Int) (leg : Int) (k : Bool) (m : Int), 0 ≤ m → cnt xs out leg k (m + 1) = cnt xs out leg k m + eqc xs out leg k m
  | [], out, leg, k, m, _ => by simp [cnt, eqc]
  | q :: xs, [], leg, k, m, _ => by simp [cnt, eqc]
  | q :: xs, o :: out, leg, k, m, h => by
    have := cnt_succ xs out leg k m h
    unfold cnt eqc
    by_cases h1 : q.c = k ∧ q.a ≤ leg ∧ leg < q.b
    · by_cases h2 : o = m
      · rw [if_pos ⟨h1.1, h1.2.1, h1.2.2, by omega, by omega⟩, if_neg (fun h => by omega), if_pos ⟨h1.1, h1.2.1, h1.2.2, h2⟩]
        omega
      · rw [if_neg (c := q.c = k ∧ q.a ≤ leg ∧ leg < q.b ∧ o = m) (fun h => h2 h.2.2.2)]
        by_cases h3 : 0 ≤ o ∧ o < m
        · rw [if_pos ⟨h1.1, h1.2.1, h1.2.2, h3.1, by omega⟩, if_pos ⟨h1.1, h1.2.1, h1.2.2, h3.1, h3.2⟩]
          omega
        · rw [if_neg (fun h => h3 ⟨h.2.2.2.1, by omega⟩), if_neg (fun h => h3 ⟨h.2.2.2.1, h.2.2.2.2⟩)]
          omega
    · rw [if_neg (fun h => h1 ⟨h.1, h.2.1, h.2.2.1⟩), if_neg (fun h => h1 ⟨h.1, h.2.1, h.2.2.1⟩), if_neg (fun h => h1 ⟨h.1, h.2.1, h.2.2.1⟩)]
      omega
theorem eqc_pos : ∀ (xs : List B3) (out : List Int) (leg : Int) (k : Bool) (t : Int) (j : Nat) (q : B3), xs[j]? = some q → out[j]? = some t → q.c = k → q.a ≤ leg → leg < q.b → 1 ≤ eqc xs out leg k t
  | [], out, leg, k, t, j, q, h1, _, _, _, _ => by simp at h1
  | r :: xs, [], leg, k, t, j, q, _, h2, _, _, _ => by simp at h2
  | r :: xs, o :: out, leg, k, t, 0, q, h1, h2, h3, h4, h5 => by
    simp only [List.getElem?_cons_zero, Option.some.injEq] at h1 h2
    subst h1 h2
    have := eqc_nonneg xs out leg k o
    unfold eqc
    rw [if_pos ⟨h3, h4, h5, rfl⟩]
    omega
  | r :: xs, o :: out, leg, k, t, j + 1, q, h1, h2, h3, h4, h5 => by
    have := eqc_pos xs out leg k t j q h1 h2 h3 h4 h5
    unfold eqc
    split <;> omega
/-- Where each seat below m is taken, there are as many. -/
theorem cnt_ge (xs : List B3) (out : List Int) (leg : Int) (k : Bool) : ∀ m : Nat, (∀ t : Nat, t < m → ∃ (j : Nat) (q : B3), xs[j]? = some q ∧ out[j]? = some (t : Int) ∧ q.c = k ∧ q.a ≤ leg ∧ leg < q.b) → (m : Int) ≤ cnt xs out leg k m
  | 0, _ => by rw [show ((0 : Nat) : Int) = 0 from rfl, cnt_zero]; omega
  | m + 1, h => by
    have h1 := cnt_ge xs out leg k m (fun t ht => h t (by omega))
    obtain ⟨j, q, h2, h3, h4, h5, h6⟩ := h m (by omega)
    have h7 := eqc_pos xs out leg k m j q h2 h3 h4 h5 h6
    have h8 := cnt_succ xs out leg k m (by omega)
    rw [show ((m + 1 : Nat) : Int) = (m : Int) + 1 from rfl, h8]
    omega
theorem cnt_le : ∀ (xs : List B3) (out : List Int) (leg : Int) (k : Bool) (m : Int), cnt xs out leg k m ≤ taken xs leg k
  | [], out, leg, k, m => by simp [cnt, taken]
  | q :: xs, [], leg, k, m => by
    have := (taken_bd (q :: xs) leg k).1
    simpa [cnt] using this
  | q :: xs, o :: out, leg, k, m => by
    have := cnt_le xs out leg k m
    unfold cnt taken
    by_cases h1 : q.c = k ∧ q.a ≤ leg ∧ leg < q.b
    · rw [if_pos (c := q.c = k ∧ q.a ≤ leg ∧ leg < q.b) h1]
      split <;> omega
    · rw [if_neg (c := q.c = k ∧ q.a ≤ leg ∧ leg < q.b) h1, if_neg (fun h => h1 ⟨h.1, h.2.1, h.2.2.1⟩)]
      omega
/-- One more, where one of them has no seat yet. -/
theorem cnt_lt : ∀ (xs : List B3) (out : List Int) (leg : Int) (k : Bool) (m : Int) (j : Nat) (q : B3), xs[j]? = some q → out[j]? = some (-1) → q.c = k → q.a ≤ leg → leg < q.b → cnt xs out leg k m + 1 ≤ taken xs leg k
  | [], out, leg, k, m, j, q, h1, _, _, _, _ => by simp at h1
  | r :: xs, [], leg, k, m, j, q, _, h2, _, _, _ => by simp at h2
  | r :: xs, o :: out, leg, k, m, 0, q, h1, h2, h3, h4, h5 => by
    simp only [List.getElem?_cons_zero, Option.some.injEq] at h1 h2
    subst h1 h2
    have := cnt_le xs out leg k m
    unfold cnt taken
    rw [if_neg (fun h => by omega), if_pos ⟨h3, h4, h5⟩]
    omega
  | r :: xs, o :: out, leg, k, m, j + 1, q, h1, h2, h3, h4, h5 => by
    have := cnt_lt xs out leg k m j q h1 h2 h3 h4 h5
    unfold cnt taken
    by_cases h6 : r.c = k ∧ r.a ≤ leg ∧ leg < r.b
    · rw [if_pos (c := r.c = k ∧ r.a ≤ leg ∧ leg < r.b) h6]
      split <;> omega
    · rw [if_neg (c := r.c = k ∧ r.a ≤ leg ∧ leg < r.b) h6, if_neg (fun h => h6 ⟨h.1, h.2.1, h.2.2.1⟩)]
      omega
theorem eqc_none : ∀ (xs : List B3) (out : List Int) (leg : Int) (k : Bool) (t : Int), (∀ (j : Nat) q, xs[j]? = some q → out[j]? = some t → ¬ (q.c = k ∧ q.a ≤ leg ∧ leg < q.b)) → eqc xs out leg k t = 0
  | [], out, leg, k, t, _ => by simp [eqc]
  | q :: xs, [], leg, k, t, _ => by simp [eqc]
  | q :: xs, o :: out, leg, k, t, h => by
    have := eqc_none xs out leg k t (fun j r h1 h2 => h (j + 1) r h1 h2)
    unfold eqc
    rw [if_neg (fun h1 => h 0 q rfl (by rw [h1.2.2.2]; rfl) ⟨h1.1, h1.2.1, h1.2.2.1⟩), this]
    rfl
/-- No two of them on one seat: at most one. -/
theorem eqc_one : ∀ (xs : List B3) (out : List Int) (leg : Int) (k : Bool) (t : Int), (∀ (i j : Nat) p q, i < j → xs[i]? = some p → xs[j]? = some q → out[i]? = some t → out[j]? = some t → ¬ meetB q p) → eqc xs out leg k t ≤ 1
  | [], out, leg, k, t, _ => by simp [eqc]
  | q :: xs, [], leg, k, t, _ => by simp [eqc]
  | q :: xs, o :: out, leg, k, t, h => by
    have h1 := eqc_one xs out leg k t (fun i j p r hij hi hj h2 h3 => h (i + 1) (j + 1) p r (by omega) hi hj h2 h3)
    unfold eqc
    by_cases h2 : q.c = k ∧ q.a ≤ leg ∧ leg < q.b ∧ o = t
    · have h3 := eqc_none xs out leg k t (fun j r hj h4 h5 => h 0 (j + 1) q r (by omega) rfl hj (by rw [h2.2.2.2]; rfl) h4 ⟨by rw [h5.1, h2.1], by omega, by omega⟩)
      rw [if_pos h2, h3]
      omega
    · rw [if_neg h2]
      omega
theorem cnt_most (xs : List B3) (out : List Int) (leg : Int) (k : Bool) (h : ∀ (t : Int) (i j : Nat) p q, i < j → xs[i]? = some p → xs[j]? = some q → out[i]? = some t → out[j]? = some t → ¬ meetB q p) : ∀ m : Nat, cnt xs out leg k m ≤ m
  | 0 => by rw [show ((0 : Nat) : Int) = 0 from rfl, cnt_zero]; omega
  | m + 1 => by
    have h1 := cnt_most xs out leg k h m
    have h2 := eqc_one xs out leg k m (h m)
    rw [show ((m + 1 : Nat) : Int) = (m : Int) + 1 from rfl, cnt_succ xs out leg k m (by omega)]
    omega
/-- All of a kind have a seat below m: all are counted. -/
theorem cnt_all : ∀ (xs : List B3) (out : List Int) (leg : Int) (k : Bool) (m : Int), out.length = xs.length → (∀ (j : Nat) q o, xs[j]? = some q → out[j]? = some o → q.c = k → 0 ≤ o ∧ o < m) → cnt xs out leg k m = taken xs leg k
  | [], out, leg, k, m, _, _ => by simp [cnt, taken]
  | q :: xs, [], leg, k, m, h, _ => by simp at h
  | q :: xs, o :: out, leg, k, m, h, ha => by
    have := cnt_all xs out leg k m (by simpa using h) (fun j r u h1 h2 h3 => ha (j + 1) r u h1 h2 h3)
    unfold cnt taken
    by_cases h1 : q.c = k ∧ q.a ≤ leg ∧ leg < q.b
    · have h2 := ha 0 q o rfl rfl h1.1
      rw [if_pos ⟨h1.1, h1.2.1, h1.2.2, h2.1, h2.2⟩, if_pos h1, this]
    · rw [if_neg (fun h => h1 ⟨h.1, h.2.1, h.2.2.1⟩), if_neg h1, this]

/-! ### A seating -/
/-- Seats in their range, and nobody on another one. -/
def SeatOk (xs : List B3) (out : List Int) : Prop :=
  out.length = xs.length ∧ (∀ (k : Nat) q o, xs[k]? = some q → out[k]? = some o → 0 ≤ o ∧ o < capOf q.c) ∧
    ∀ (t : Int) (i j : Nat) p q, i < j → xs[i]? = some p → xs[j]? = some q → out[i]? = some t → out[j]? = some t → ¬ meetB q p
theorem take_at {α : Type} {xs : List α} {i j : Nat} {p : α} (h : (xs.take i)[j]? = some p) : j < i ∧ xs[j]? = some p := by
  rw [List.getElem?_take] at h
  split at h
  · exact ⟨by assumption, h⟩
  · cases h
theorem take_at_of {α : Type} {xs : List α} {i j : Nat} {p : α} (h : xs[j]? = some p) (hi : j < i) : (xs.take i)[j]? = some p := by
  rw [List.getElem?_take, if_pos hi]; exact h
theorem seat_nil : SeatOk [] [] := ⟨rfl, by simp, by simp⟩
/-- One more booking in order. -/
theorem seat_next {xs : List B3} {out : List Int} {i : Nat} {p : B3} {o : Int} (hx : xs[i]? = some p) (ho : out[i]? = some o) (h : SeatOk (xs.take i) (out.take i)) (h0 : 0 ≤ o) (h1 : o < capOf p.c) (hb : blk (xs.take i) (out.take i) p o = false) :
    SeatOk (xs.take (i + 1)) (out.take (i + 1)) := by
  have hxl := (List.getElem?_eq_some_iff.1 hx).1
  have hol := (List.getElem?_eq_some_iff.1 ho).1
  obtain ⟨a1, a2, a3⟩ := h
  refine ⟨by rw [List.length_take, List.length_take]; omega, fun k q u hk hu => ?_, fun t k j q r hkj hk hj hu hv hm => ?_⟩
  · obtain ⟨k1, k2⟩ := take_at hk
    obtain ⟨_, k3⟩ := take_at hu
    by_cases e : k = i
    · subst e
      rw [hx] at k2
      rw [ho] at k3
      injection k2 with k2
      injection k3 with k3
      subst k2 k3
      exact ⟨h0, h1⟩
    · exact a2 k q u (take_at_of k2 (by omega)) (take_at_of k3 (by omega))
  · obtain ⟨k1, k2⟩ := take_at hk
    obtain ⟨_, k3⟩ := take_at hu
    obtain ⟨j1, j2⟩ := take_at hj
    obtain ⟨_, j3⟩ := take_at hv
    by_cases e : j = i
    · subst e
      rw [hx] at j2
      rw [ho] at j3
      injection j2 with j2
      injection j3 with j3
      subst j2 j3
      have := (blk_iff (xs.take j) (out.take j) p o).2 ⟨k, q, take_at_of k2 hkj, take_at_of k3 hkj, hm⟩
      rw [hb] at this
      cases this
    · exact a3 t k j q r hkj (take_at_of k2 (by omega)) (take_at_of j2 (by omega)) (take_at_of k3 (by omega)) (take_at_of j3 (by omega)) hm
theorem seat_not_range {xs : List B3} {out : List Int} {i : Nat} {p : B3} {o : Int} (hx : xs[i]? = some p) (ho : out[i]? = some o) (h : ¬ (0 ≤ o ∧ o < capOf p.c)) : ¬ SeatOk xs out := fun hS => h (hS.2.1 i p o hx ho)
theorem seat_not_blk {xs : List B3} {out : List Int} {i : Nat} {p : B3} {o : Int} (hx : xs[i]? = some p) (ho : out[i]? = some o) (h : blk (xs.take i) (out.take i) p o = true) : ¬ SeatOk xs out := fun hS => by
  obtain ⟨k, q, h1, h2, h3⟩ := (blk_iff _ _ _ _).1 h
  obtain ⟨k1, k2⟩ := take_at h1
  obtain ⟨_, k3⟩ := take_at h2
  exact hS.2.2 o k i q p k1 k2 hx k3 ho h3
theorem seat_erase {xs : List B3} {out : List Int} (h : SeatOk xs out) (k : Nat) : SeatOk (xs.eraseIdx k) (out.eraseIdx k) := by
  obtain ⟨h1, h2, h3⟩ := h
  have hl : (out.eraseIdx k).length = (xs.eraseIdx k).length := by rw [List.length_eraseIdx, List.length_eraseIdx, h1]
  refine ⟨hl, fun j q o hq ho => ?_, fun t i j p q hij hp hq ho hu => ?_⟩
  · rw [List.getElem?_eraseIdx] at hq ho
    split at hq
    · rename_i hj
      rw [if_pos hj] at ho
      exact h2 _ q o hq ho
    · rename_i hj
      rw [if_neg hj] at ho
      exact h2 _ q o hq ho
  · rw [List.getElem?_eraseIdx] at hp hq ho hu
    by_cases a1 : i < k <;> by_cases a2 : j < k
    all_goals simp only [a1, a2, if_true, if_false] at hp hq ho hu
    · exact h3 t i j p q hij hp hq ho hu
    · exact h3 t i (j + 1) p q (by omega) hp hq ho hu
    · omega
    · exact h3 t (i + 1) (j + 1) p q (by omega) hp hq ho hu
/-- No leg has more than the seats that are used. -/
theorem seat_most {xs : List B3} {out : List Int} (h : SeatOk xs out) (leg : Int) (k : Bool) (m : Nat) (hm : ∀ (j : Nat) q o, xs[j]? = some q → out[j]? = some o → q.c = k → o < m) : taken xs leg k ≤ m := by
  rw [← cnt_all xs out leg k m h.1 (fun j q o h1 h2 h3 => ⟨(h.2.1 j q o h1 h2).1, hm j q o h1 h2 h3⟩)]
  exact cnt_most xs out leg k h.2.2 m

/-! ### The plan -/
/-- The bookings of one stop get their seats, in order. -/
def inn (xs : List B3) (stop : Int) (out0 : List Int) : Nat → List Int
  | 0 => out0
  | j + 1 => match xs[j]? with
    | some p => if p.a = stop then (inn xs stop out0 j).set j (pick xs (inn xs stop out0 j) p) else inn xs stop out0 j
    | none => inn xs stop out0 j
def plan (xs : List B3) : Nat → List Int
  | 0 => List.replicate xs.length (-1)
  | s + 1 => inn xs s (plan xs s) xs.length
/-- The plan where all stops ahead of one and, of that one, all bookings ahead of i are done. -/
def PlanIs (xs : List B3) (stop : Int) (i : Nat) (out : List Int) : Prop :=
  out.length = xs.length ∧
    (∀ (k : Nat) q o, xs[k]? = some q → out[k]? = some o → (o = -1 ∧ (stop < q.a ∨ (q.a = stop ∧ i ≤ k))) ∨ (0 ≤ o ∧ o < capOf q.c ∧ (q.a < stop ∨ (q.a = stop ∧ k < i)) ∧ o + 1 ≤ taken xs q.a q.c)) ∧
    ∀ (t : Int) (k l : Nat) q r, 0 ≤ t → k < l → xs[k]? = some q → xs[l]? = some r → out[k]? = some t → out[l]? = some t → ¬ meetB r q
theorem meet_symm {p q : B3} (h : meetB p q) : meetB q p := ⟨h.1.symm, h.2.2, h.2.1⟩
theorem plan_start {n : Int} {xs : List B3} (h : ∀ p ∈ xs, OkB n p) : PlanIs xs 0 0 (List.replicate xs.length (-1)) := by
  refine ⟨by simp, fun k q o hq ho => ?_, fun t k l q r ht hkl hq hr ho hu => ?_⟩
  · have := h q (mem_at hq)
    unfold OkB at this
    rw [List.getElem?_replicate] at ho
    split at ho
    · injection ho with ho
      left
      refine ⟨ho.symm, ?_⟩
      by_cases e : q.a = 0
      · exact .inr ⟨e, by omega⟩
      · exact .inl (by omega)
    · cases ho
  · rw [List.getElem?_replicate] at ho
    split at ho
    · injection ho with ho
      omega
    · cases ho
theorem plan_skip {xs : List B3} {stop : Int} {i : Nat} {out : List Int} {p : B3} (h : PlanIs xs stop i out) (hx : xs[i]? = some p) (hn : p.a ≠ stop) : PlanIs xs stop (i + 1) out := by
  obtain ⟨h1, h2, h3⟩ := h
  refine ⟨h1, fun k q o hq ho => ?_, h3⟩
  by_cases e : k = i
  · subst e
    rw [hx] at hq
    injection hq with hq
    subst hq
    rcases h2 k p o hx ho with ⟨a, b⟩ | ⟨a, b, c, d⟩
    · exact .inl ⟨a, by omega⟩
    · exact .inr ⟨a, b, by omega, d⟩
  · rcases h2 k q o hq ho with ⟨a, b⟩ | ⟨a, b, c, d⟩
    · exact .inl ⟨a, by omega⟩
    · exact .inr ⟨a, b, by omega, d⟩
theorem plan_turn {xs : List B3} {stop : Int} {out : List Int} (h : PlanIs xs stop xs.length out) : PlanIs xs (stop + 1) 0 out := by
  obtain ⟨h1, h2, h3⟩ := h
  refine ⟨h1, fun k q o hq ho => ?_, h3⟩
  have hk := (List.getElem?_eq_some_iff.1 hq).1
  rcases h2 k q o hq ho with ⟨a, b⟩ | ⟨a, b, c, d⟩
  · exact .inl ⟨a, by omega⟩
  · exact .inr ⟨a, b, by omega, d⟩
/-- What the pick is: in its range, free, all lower ones taken, no more than are on the first leg. -/
theorem plan_pick {n : Int} {xs : List B3} {stop : Int} {i : Nat} {out : List Int} {p : B3} (hB : BookOk n xs) (h : PlanIs xs stop i out) (hx : xs[i]? = some p) (hs : p.a = stop) :
    out[i]? = some (-1) ∧ pick xs out p < capOf p.c ∧ blk xs out p (pick xs out p) = false ∧ (∀ t : Nat, t < pick xs out p → blk xs out p t = true) ∧ (pick xs out p : Int) + 1 ≤ taken xs p.a p.c := by
  obtain ⟨h1, h2, h3⟩ := h
  have hil := (List.getElem?_eq_some_iff.1 hx).1
  have hc := capOf_bd p.c
  have hok := hB.2.2.2.1 p (mem_at hx)
  unfold OkB at hok
  have hi : out[i]? = some (-1) := by
    obtain ⟨o, ho⟩ : ∃ o, out[i]? = some o := ⟨_, List.getElem?_eq_getElem (by omega)⟩
    rcases h2 i p o hx ho with ⟨a, b⟩ | ⟨a, b, c, d⟩
    · rw [ho, a]
    · omega
  have hbd := pickF_bd (blk xs out p) (capOf p.c - 1) 0
  have hbl := pickF_below (blk xs out p) (capOf p.c - 1) 0
  have hfr := pickF_free (blk xs out p) (capOf p.c - 1) 0
  have key : ∀ m : Nat, (∀ t : Nat, t < m → blk xs out p t = true) → (m : Int) + 1 ≤ taken xs p.a p.c := by
    intro m hm
    have g1 := cnt_ge xs out p.a p.c m (fun t ht => by
      obtain ⟨k, q, k1, k2, k3⟩ := (blk_iff _ _ _ _).1 (hm t ht)
      have hq := hB.2.2.2.1 q (mem_at k1)
      unfold OkB at hq
      refine ⟨k, q, k1, k2, k3.1.symm, ?_, k3.2.1⟩
      rcases h2 k q t k1 k2 with ⟨a, b⟩ | ⟨a, b, c, d⟩
      · omega
      · omega)
    have g2 := cnt_lt xs out p.a p.c m i p hx hi rfl (Int.le_refl _) hok.2.1
    omega
  have hlt : pick xs out p < capOf p.c := by unfold pick; omega
  have hlow : ∀ t : Nat, t < pick xs out p → blk xs out p t = true := fun t ht => hbl t (by omega) ht
  refine ⟨hi, hlt, ?_, hlow, key _ hlow⟩
  cases hb : blk xs out p (pick xs out p) with
  | false => rfl
  | true =>
    have := key (pick xs out p + 1) (fun t ht => by
      by_cases e : t = pick xs out p
      · rw [e]; exact hb
      · exact hlow t (by omega))
    have hle := hB.2.2.2.2 p.a.toNat (by omega)
    rw [Int.toNat_of_nonneg hok.1] at hle
    have : (pick xs out p : Int) + 1 < capOf p.c := by
      cases hk : p.c
      · rw [hk] at this
        simp only [capOf, Bool.false_eq_true, if_false]
        omega
      · rw [hk] at this
        simp only [capOf, if_true]
        omega
    exact absurd hb (by rw [show pick xs out p = pickF (blk xs out p) (capOf p.c - 1) 0 from rfl, hfr (by unfold pick at this; omega)]; simp)
theorem plan_step {n : Int} {xs : List B3} {stop : Int} {i : Nat} {out : List Int} {p : B3} (hB : BookOk n xs) (h : PlanIs xs stop i out) (hx : xs[i]? = some p) (hs : p.a = stop) : PlanIs xs stop (i + 1) (out.set i (pick xs out p)) := by
  obtain ⟨hi, hlt, hfr, hlow, htk⟩ := plan_pick hB h hx hs
  obtain ⟨h1, h2, h3⟩ := h
  have hil := (List.getElem?_eq_some_iff.1 hx).1
  generalize pick xs out p = s at *
  have other : ∀ (k : Nat) (o : Int), k ≠ i → (out.set i (s : Int))[k]? = some o → out[k]? = some o := fun k o hk ho => by
    rwa [List.getElem?_set_ne (fun e => hk e.symm)] at ho
  have same : ∀ o : Int, (out.set i (s : Int))[i]? = some o → o = s := fun o ho => by
    rw [List.getElem?_set_self (by omega)] at ho
    injection ho with ho
    exact ho.symm
  refine ⟨by rw [List.length_set]; exact h1, fun k q o hq ho => ?_, fun t k l q r ht hkl hq hr ho hu => ?_⟩
  · by_cases e : k = i
    · subst e
      rw [hx] at hq
      injection hq with hq
      subst hq
      have := same o ho
      subst this
      exact .inr ⟨by omega, by omega, by omega, htk⟩
    · rcases h2 k q o hq (other k o e ho) with ⟨a, b⟩ | ⟨a, b, c, d⟩
      · exact .inl ⟨a, by omega⟩
      · exact .inr ⟨a, b, by omega, d⟩
  · have no : ∀ (k : Nat) q, xs[k]? = some q → k ≠ i → (out.set i (s : Int))[k]? = some (s : Int) → ¬ meetB p q := fun k q hk hne hs' hm => by
      have := (blk_iff xs out p s).2 ⟨k, q, hk, other k _ hne hs', hm⟩
      rw [hfr] at this
      cases this
    by_cases e1 : k = i
    · subst e1
      rw [hx] at hq
      injection hq with hq
      subst hq
      have := same t ho
      subst this
      exact fun hm => no l r hr (by omega) hu (meet_symm hm)
    · by_cases e2 : l = i
      · subst e2
        rw [hx] at hr
        injection hr with hr
        subst hr
        have := same t hu
        subst this
        exact no k q hq (by omega) ho
      · exact h3 t k l q r ht hkl hq hr (other k t e1 ho) (other l t e2 hu)
theorem inn_next {xs : List B3} {stop : Int} {out0 : List Int} {j : Nat} {p : B3} (h : xs[j]? = some p) : inn xs stop out0 (j + 1) = if p.a = stop then (inn xs stop out0 j).set j (pick xs (inn xs stop out0 j) p) else inn xs stop out0 j := by
  rw [inn, h]
theorem inn_is {n : Int} {xs : List B3} {stop : Int} {out0 : List Int} (hB : BookOk n xs) (h : PlanIs xs stop 0 out0) : ∀ j, j ≤ xs.length → PlanIs xs stop j (inn xs stop out0 j)
  | 0, _ => h
  | j + 1, hj => by
    have ih := inn_is hB h j (by omega)
    obtain ⟨p, hp⟩ : ∃ p, xs[j]? = some p := ⟨_, List.getElem?_eq_getElem (by omega)⟩
    rw [inn_next hp]
    by_cases e : p.a = stop
    · rw [if_pos e]; exact plan_step hB ih hp e
    · rw [if_neg e]; exact plan_skip ih hp e
theorem plan_is {n : Int} {xs : List B3} (hB : BookOk n xs) : ∀ s : Nat, PlanIs xs s 0 (plan xs s)
  | 0 => plan_start hB.2.2.2.1
  | s + 1 => plan_turn (inn_is hB (plan_is hB s) xs.length (Nat.le_refl _))
theorem plan_len {n : Int} {xs : List B3} (hB : BookOk n xs) (s : Nat) : (plan xs s).length = xs.length := (plan_is hB s).1
/-- The whole plan is a seating; each seat is no higher than the bookings on the first leg of its own. -/
theorem plan_all {n : Nat} {xs : List B3} (hB : BookOk n xs) : SeatOk xs (plan xs n) ∧ ∀ (k : Nat) q o, xs[k]? = some q → (plan xs n)[k]? = some o → o + 1 ≤ taken xs q.a q.c := by
  obtain ⟨h1, h2, h3⟩ := plan_is hB n
  have key : ∀ (k : Nat) q o, xs[k]? = some q → (plan xs n)[k]? = some o → 0 ≤ o ∧ o < capOf q.c ∧ o + 1 ≤ taken xs q.a q.c := fun k q o hq ho => by
    have hok := hB.2.2.2.1 q (mem_at hq)
    unfold OkB at hok
    rcases h2 k q o hq ho with ⟨a, b⟩ | ⟨a, b, c, d⟩
    · omega
    · exact ⟨a, b, d⟩
  exact ⟨⟨h1, fun k q o hq ho => ⟨(key k q o hq ho).1, (key k q o hq ho).2.1⟩, fun t i j p q hij hp hq ho hu => h3 t i j p q (key i p t hp ho).1 hij hp hq ho hu⟩, fun k q o hq ho => (key k q o hq ho).2.2⟩

/-! ### The seats of a coach as sets of legs -/
/-- The legs on which the seat s of a kind is taken. -/
def occ : List B3 → List Int → Bool → Int → Nat
  | q :: xs, o :: out, k, s => (if q.c = k ∧ o = s then legs q.a.toNat q.b.toNat else 0) ||| occ xs out k s
  | _, _, _, _ => 0
theorem legs_lt128 (f t : Nat) (ht : t ≤ 7) : legs f t < 2 ^ 7 := by
  unfold legs
  by_cases e : t = 0
  · subst e; have : 2 ^ 0 - 2 ^ f ≤ 1 := Nat.sub_le _ _; omega
  · have h1 : 2 ^ t ≤ 2 ^ 7 := Nat.pow_le_pow_right (by omega) ht
    have h2 : 0 < 2 ^ f := Nat.pow_pos (by omega)
    have h3 : 0 < 2 ^ t := Nat.pow_pos (by omega)
    omega
theorem occ_lt : ∀ (xs : List B3) (out : List Int) (k : Bool) (s : Int), (∀ p ∈ xs, OkB 7 p) → occ xs out k s < 2 ^ 7
  | [], out, k, s, _ => by simp [occ]
  | q :: xs, [], k, s, _ => by simp [occ]
  | q :: xs, o :: out, k, s, h => by
    have h1 := occ_lt xs out k s (fun p hp => h p (List.mem_cons_of_mem _ hp))
    have h2 := h q (List.mem_cons_self ..)
    unfold OkB at h2
    unfold occ
    refine Nat.or_lt_two_pow ?_ h1
    split
    · exact legs_lt128 _ _ (by omega)
    · decide
theorem legs_meetB {p q : B3} (hp : OkB 7 p) (hq : OkB 7 q) : (legs q.a.toNat q.b.toNat &&& legs p.a.toNat p.b.toNat ≠ 0) ↔ (p.a < q.b ∧ q.a < p.b) := by
  unfold OkB at hp hq
  have h := legs_meet ⟨q.a.toNat, by omega⟩ ⟨q.b.toNat, by omega⟩ ⟨p.a.toNat, by omega⟩ ⟨p.b.toNat, by omega⟩ (by simp; omega) (by simp; omega)
  simp only at h
  rw [h]
  omega
theorem or_ne_zero (a b : Nat) : (a ||| b ≠ 0) ↔ (a ≠ 0 ∨ b ≠ 0) := by
  rw [Ne, Nat.or_eq_zero_iff]
  omega
theorem occ_blk : ∀ (xs : List B3) (out : List Int) (p : B3) (s : Int), (∀ q ∈ xs, OkB 7 q) → OkB 7 p → ((occ xs out p.c s &&& legs p.a.toNat p.b.toNat ≠ 0) ↔ blk xs out p s = true)
  | [], out, p, s, _, _ => by simp [occ, blk]
  | q :: xs, [], p, s, _, _ => by simp [occ, blk]
  | q :: xs, o :: out, p, s, h, hp => by
    have ih := occ_blk xs out p s (fun r hr => h r (List.mem_cons_of_mem _ hr)) hp
    have hq := h q (List.mem_cons_self ..)
    unfold occ blk
    rw [Nat.and_or_distrib_right, or_ne_zero, ih, Bool.or_eq_true, Bool.and_eq_true, decide_eq_true_eq, decide_eq_true_eq]
    refine or_congr ?_ Iff.rfl
    by_cases h1 : q.c = p.c ∧ o = s
    · rw [if_pos h1, legs_meetB hp hq]
      unfold meetB
      exact ⟨fun h2 => ⟨h1.2, h1.1.symm, h2⟩, fun h2 => h2.2.2⟩
    · rw [if_neg h1]
      simp only [Nat.zero_and, ne_eq, not_true, false_iff]
      unfold meetB
      exact fun h2 => h1 ⟨h2.2.1.symm, h2.1⟩
theorem occ_none : ∀ (xs : List B3) (m : Nat) (k : Bool) (s : Int), 0 ≤ s → occ xs (List.replicate m (-1)) k s = 0
  | [], m, k, s, _ => by simp [occ]
  | q :: xs, 0, k, s, _ => by simp [occ]
  | q :: xs, m + 1, k, s, h => by
    rw [List.replicate_succ, occ, occ_none xs m k s h, if_neg (fun h1 => by omega)]
    rfl
theorem occ_set : ∀ (xs : List B3) (out : List Int) (i : Nat) (p : B3) (t : Int) (k : Bool) (s : Int), xs[i]? = some p → out[i]? = some (-1) → 0 ≤ s → 
    occ xs (out.set i t) k s = occ xs out k s ||| (if p.c = k ∧ t = s then legs p.a.toNat p.b.toNat else 0)
  | [], out, i, p, t, k, s, h, _, _ => by simp at h
  | q :: xs, [], i, p, t, k, s, _, h, _ => by simp at h
  | q :: xs, o :: out, 0, p, t, k, s, h1, h2, h3 => by
    simp only [List.getElem?_cons_zero, Option.some.injEq] at h1 h2
    subst h1 h2
    rw [List.set_cons_zero, occ, occ, if_neg (c := q.c = k ∧ (-1 : Int) = s) (fun h => by omega), Nat.zero_or, Nat.or_comm]
  | q :: xs, o :: out, i + 1, p, t, k, s, h1, h2, h3 => by
    rw [List.set_cons_succ, occ, occ, occ_set xs out i p t k s h1 h2 h3, Nat.or_assoc]
theorem occ_append : ∀ (xs : List B3) (out : List Int) (p : B3) (o : Int) (k : Bool) (s : Int), out.length = xs.length →
    occ (xs ++ [p]) (out ++ [o]) k s = occ xs out k s ||| (if p.c = k ∧ o = s then legs p.a.toNat p.b.toNat else 0)
  | [], [], p, o, k, s, _ => by simp [occ]
  | [], o' :: out, p, o, k, s, h => by simp at h
  | q :: xs, [], p, o, k, s, h => by simp at h
  | q :: xs, o' :: out, p, o, k, s, h => by
    rw [List.cons_append, List.cons_append, occ, occ, occ_append xs out p o k s (by simpa using h), Nat.or_assoc]
theorem occ_next {xs : List B3} {out : List Int} {i : Nat} {p : B3} {o : Int} (hx : xs[i]? = some p) (ho : out[i]? = some o) (k : Bool) (s : Int) :
    occ (xs.take (i + 1)) (out.take (i + 1)) k s = occ (xs.take i) (out.take i) k s ||| (if p.c = k ∧ o = s then legs p.a.toNat p.b.toNat else 0) := by
  have hxl := (List.getElem?_eq_some_iff.1 hx).1
  have hol := (List.getElem?_eq_some_iff.1 ho).1
  rw [take_next hx, take_next ho, occ_append _ _ _ _ _ _ (by rw [List.length_take, List.length_take]; omega)]
end Go.Proofs.Ytkknfhabfmpogaa
