/- Plain mathematics of way-bills: what the laws say of loads, pounds and room. -/
import Derived.Test.YtdfgogcefnamcaaPlain
set_option linter.unusedVariables false
namespace Go.Proofs.Ytdfgogcefnamcaa

/-! ### Parts and orders of way-bills -/
theorem load_sub {xs ys : List T3} (hs : ys.Sublist xs) (leg : Int) (hc : ∀ p ∈ xs, 0 ≤ p.c) : load ys leg ≤ load xs leg := by
  induction hs with
  | slnil => exact Int.le_refl _
  | cons p h ih =>
    have h1 := ih fun q hq => hc q (List.mem_cons_of_mem _ hq)
    have h2 := hc p (List.mem_cons_self ..)
    simp only [load]
    split <;> omega
  | cons_cons p h ih =>
    have h1 := ih fun q hq => hc q (List.mem_cons_of_mem _ hq)
    simp only [load]
    omega
theorem load_perm {xs ys : List T3} (h : ys.Perm xs) (leg : Int) : load ys leg = load xs leg := by
  induction h with
  | nil => rfl
  | cons p h ih => simp only [load, ih]
  | swap p q l => simp only [load]; omega
  | trans _ _ h1 h2 => rw [h1, h2]
theorem pound_perm {xs ys : List T3} (h : ys.Perm xs) : pound ys = pound xs := by
  induction h with
  | nil => rfl
  | cons p h ih => simp only [pound, ih]
  | swap p q l => simp only [pound]; omega
  | trans _ _ h1 h2 => rw [h1, h2]
theorem bill_sub {n : Int} {xs ys : List T3} (h : BillOk n xs) (hs : ys.Sublist xs) : BillOk n ys := by
  obtain ⟨h1, h2, h3, h4, h5⟩ := h
  refine ⟨h1, h2, Nat.le_trans hs.length_le h3, fun p hp => h4 p (hs.subset hp), fun leg hl => ?_⟩
  have := load_sub hs leg (fun p hp => (okP_w h4 p hp).1)
  have := h5 leg hl
  omega
theorem bill_perm {n : Int} {xs ys : List T3} (h : BillOk n xs) (hs : ys.Perm xs) : BillOk n ys := by
  obtain ⟨h1, h2, h3, h4, h5⟩ := h
  refine ⟨h1, h2, by rw [hs.length_eq]; exact h3, fun p hp => h4 p (hs.mem_iff.1 hp), fun leg hl => ?_⟩
  rw [load_perm hs]
  exact h5 leg hl
theorem loads_at {xs : List T3} {n j : Nat} (h : j < n) : (loads xs n)[j]? = some (load xs j) := by
  unfold loads
  rw [List.getElem?_map, List.getElem?_range h]
  rfl
theorem load_parts (xs : List T3) (k : Nat) (leg : Int) : load (xs.take k) leg + load (xs.drop k) leg = load xs leg := by
  rw [← load_append, List.take_append_drop]

/-! ### Loads change at stops -/
def chg : List T3 → Int → Int
  | [], _ => 0
  | p :: xs, leg => ((if p.a = leg then p.c else 0) - (if p.b = leg then p.c else 0)) + chg xs leg
theorem chg_append (xs ys : List T3) (leg : Int) : chg (xs ++ ys) leg = chg xs leg + chg ys leg := by
  induction xs with
  | nil => simp [chg]
  | cons p xs ih => simp only [List.cons_append, chg, ih]; omega
theorem chg_next {xs : List T3} {k : Nat} {p : T3} (leg : Int) (h : xs[k]? = some p) : chg (xs.take (k + 1)) leg = chg (xs.take k) leg + ((if p.a = leg then p.c else 0) - (if p.b = leg then p.c else 0)) := by
  rw [take_next h, chg_append]; simp [chg]
theorem load_chg {n : Int} {xs : List T3} (h : ∀ p ∈ xs, OkP n p) (leg : Int) : load xs leg = load xs (leg - 1) + chg xs leg := by
  induction xs with
  | nil => simp [load, chg]
  | cons p xs ih =>
    have h1 := ih fun q hq => h q (List.mem_cons_of_mem _ hq)
    have h2 := h p (List.mem_cons_self ..)
    unfold OkP at h2
    simp only [load, chg]
    split <;> split <;> split <;> split <;> omega
theorem load_neg {n : Int} {xs : List T3} (h : ∀ p ∈ xs, OkP n p) {leg : Int} (hl : leg < 0) : load xs leg = 0 := by
  induction xs with
  | nil => rfl
  | cons p xs ih =>
    have h1 := ih fun q hq => h q (List.mem_cons_of_mem _ hq)
    have h2 := h p (List.mem_cons_self ..)
    unfold OkP at h2
    simp only [load]
    split <;> omega
theorem chg_bd {n : Int} {xs : List T3} (h : ∀ p ∈ xs, OkP n p) (leg : Int) : -99 * (xs.length : Int) ≤ chg xs leg ∧ chg xs leg ≤ 99 * xs.length := by
  induction xs with
  | nil => simp [chg]
  | cons p xs ih =>
    have h1 := ih fun q hq => h q (List.mem_cons_of_mem _ hq)
    have h2 := h p (List.mem_cons_self ..)
    unfold OkP at h2
    simp only [chg, List.length_cons]
    split <;> split <;> omega
theorem loads_sum {n : Nat} {xs : List T3} (h : ∀ p ∈ xs, OkP n p) : (loads xs n).sum = pound xs := by
  rw [← sumTo_pound n xs h]
  have key : ∀ j, (loads xs j).sum = sumTo xs j := by
    intro j
    induction j with
    | zero => rfl
    | succ j ih => rw [loads_next, List.sum_append, ih]; simp [sumTo]
  exact key n
theorem pound_room {n : Nat} {xs : List T3} (h : BillOk n xs) : pound xs ≤ 300 * n := by
  rw [← sumTo_pound n xs h.2.2.2.1]
  exact (sumTo_bd h n (Int.le_refl _)).2

/-! ### A coach back -/
theorem load_turned (n : Int) (xs : List T3) (leg : Int) : load (turned n xs) leg = load xs (n - 1 - leg) := by
  induction xs with
  | nil => rfl
  | cons p xs ih =>
    simp only [turned, List.map_cons, load] at ih ⊢
    rw [ih]
    congr 1
    by_cases h : n - p.b ≤ leg ∧ leg < n - p.a
    · rw [if_pos h, if_pos (by omega)]
    · rw [if_neg h, if_neg (by omega)]
theorem pound_turned (n : Int) (xs : List T3) : pound (turned n xs) = pound xs := by
  induction xs with
  | nil => rfl
  | cons p xs ih =>
    simp only [turned, List.map_cons, pound] at ih ⊢
    rw [ih]
    have e : n - p.a - (n - p.b) = p.b - p.a := by omega
    rw [e]
theorem turned_turned (n : Int) (xs : List T3) : turned n (turned n xs) = xs := by
  unfold turned
  rw [List.map_map]
  have e : ((fun p : T3 => (⟨n - p.b, n - p.a, p.c⟩ : T3)) ∘ fun p : T3 => (⟨n - p.b, n - p.a, p.c⟩ : T3)) = id := by
    funext p
    obtain ⟨a, b, c⟩ := p
    simp only [Function.comp, id]
    congr 1 <;> omega
  rw [e, List.map_id]
theorem bill_turned {n : Int} {xs : List T3} (h : BillOk n xs) : BillOk n (turned n xs) := by
  obtain ⟨h1, h2, h3, h4, h5⟩ := h
  refine ⟨h1, h2, by rw [turned_len]; exact h3, fun p hp => ?_, fun leg hl => ?_⟩
  · obtain ⟨q, hq, rfl⟩ := List.mem_map.1 hp
    have := h4 q hq
    unfold OkP at *
    dsimp only
    omega
  · rw [load_turned]
    have := h5 (n - 1 - leg).toNat (by omega)
    have e : (((n - 1 - leg).toNat : Nat) : Int) = n - 1 - leg := by omega
    rwa [e] at this
theorem loads_turned (n : Nat) (xs : List T3) : loads (turned n xs) n = (loads xs n).reverse := by
  apply List.ext_getElem?
  intro j
  by_cases hj : j < n
  · rw [loads_at hj, load_turned, List.getElem?_reverse (by rw [loads_len]; exact hj), loads_len, loads_at (by omega)]
    congr 2
    omega
  · rw [List.getElem?_eq_none (by rw [loads_len]; omega), List.getElem?_eq_none (by rw [List.length_reverse, loads_len]; omega)]

/-! ### Room -/
theorem room_le (xs : List T3) (f w : Int) : ∀ m : Nat, w ≤ roomTo xs f m ↔ w ≤ 300 ∧ ∀ j : Nat, j < m → w + load xs (f + j) ≤ 300
  | 0 => by simp [roomTo]
  | m + 1 => by
    simp only [roomTo]
    rw [Int.le_min, room_le xs f w m]
    constructor
    · rintro ⟨⟨h1, h2⟩, h3⟩
      refine ⟨h1, fun j hj => ?_⟩
      by_cases e : j = m
      · subst e; omega
      · exact h2 j (by omega)
    · rintro ⟨h1, h2⟩
      refine ⟨⟨h1, fun j hj => h2 j (by omega)⟩, ?_⟩
      have := h2 m (by omega)
      omega
theorem room_add {n : Int} {xs : List T3} (h : ∀ p ∈ xs, OkP n p) (f t w : Int) (hw : 0 ≤ w) : ∀ m : Nat, f + (m + 1 : Nat) ≤ t → roomTo (xs ++ [⟨f, t, w⟩]) f (m + 1) = roomTo xs f (m + 1) - w
  | 0, hm => by
    have h1 := load_nonneg h (f + 0)
    have e : load (xs ++ [⟨f, t, w⟩]) (f + 0) = load xs (f + 0) + w := by
      rw [load_append]
      simp only [load]
      rw [if_pos (by omega)]
      omega
    have z : ((0 : Nat) : Int) = 0 := rfl
    simp only [roomTo, z]
    rw [e]
    omega
  | m + 1, hm => by
    have ih := room_add h f t w hw m (by omega)
    have e : load (xs ++ [⟨f, t, w⟩]) (f + (m + 1 : Nat)) = load xs (f + (m + 1 : Nat)) + w := by
      rw [load_append]
      simp only [load]
      rw [if_pos (by omega)]
      omega
    rw [roomTo, ih, e]
    rw [show roomTo xs f (m + 1 + 1) = min (roomTo xs f (m + 1)) (300 - load xs (f + (m + 1 : Nat))) from rfl]
    omega
theorem add_iff {n : Int} {xs : List T3} {f t w : Int} (h : BillOk n xs) (hft : 0 ≤ f ∧ f < t ∧ t ≤ n) (hw : 1 ≤ w ∧ w ≤ 99) :
    BillOk n (xs ++ [⟨f, t, w⟩]) ↔ w ≤ roomTo xs f (t - f).toNat ∧ xs.length < 12 := by
  have hl : ∀ leg, load (xs ++ [⟨f, t, w⟩]) leg = load xs leg + if f ≤ leg ∧ leg < t then w else 0 := fun leg => by
    rw [load_append]; simp [load]
  rw [room_le]
  constructor
  · rintro ⟨h1, h2, h3, h4, h5⟩
    rw [List.length_append, List.length_singleton] at h3
    refine ⟨⟨by omega, fun j hj => ?_⟩, by omega⟩
    have := h5 (f + j).toNat (by omega)
    have e : (((f + j).toNat : Nat) : Int) = f + j := by omega
    rw [e, hl, if_pos (by omega)] at this
    omega
  · rintro ⟨⟨h1, h2⟩, h3⟩
    obtain ⟨a1, a2, a3, a4, a5⟩ := h
    refine ⟨a1, a2, by rw [List.length_append, List.length_singleton]; omega, fun p hp => ?_, fun leg hleg => ?_⟩
    · rcases List.mem_append.1 hp with hp | hp
      · exact a4 p hp
      · rw [List.mem_singleton.1 hp]
        unfold OkP
        dsimp only
        omega
    · rw [hl]
      have h5 := a5 leg hleg
      by_cases hin : f ≤ (leg : Int) ∧ (leg : Int) < t
      · rw [if_pos hin]
        have := h2 ((leg : Int) - f).toNat (by omega)
        have e : f + ((((leg : Int) - f).toNat : Nat) : Int) = leg := by omega
        rw [e] at this
        omega
      · rw [if_neg hin]; omega
/-- The one that has been taken out has room. -/
theorem load_erase {xs : List T3} {k : Nat} {p : T3} (h : xs[k]? = some p) (leg : Int) : load (xs.eraseIdx k) leg = load xs leg - if p.a ≤ leg ∧ leg < p.b then p.c else 0 := by
  have hk := List.getElem?_eq_some_iff.1 h
  have e : xs = xs.take k ++ p :: xs.drop (k + 1) := by rw [← hk.2, ← List.drop_eq_getElem_cons hk.1, List.take_append_drop]
  have e2 : load xs leg = load (xs.take k ++ p :: xs.drop (k + 1)) leg := congrArg (load · leg) e
  rw [List.eraseIdx_eq_take_drop_succ, e2, load_append, load_append]
  simp only [load]
  omega
theorem pound_erase {xs : List T3} {k : Nat} {p : T3} (h : xs[k]? = some p) : pound (xs.eraseIdx k) = pound xs - p.c * (p.b - p.a) := by
  have hk := List.getElem?_eq_some_iff.1 h
  have e : xs = xs.take k ++ p :: xs.drop (k + 1) := by rw [← hk.2, ← List.drop_eq_getElem_cons hk.1, List.take_append_drop]
  have e2 : pound xs = pound (xs.take k ++ p :: xs.drop (k + 1)) := congrArg pound e
  rw [List.eraseIdx_eq_take_drop_succ, e2, pound_append, pound_append]
  simp only [pound]
  omega
theorem room_erase {n : Int} {xs : List T3} (hB : BillOk n xs) {k : Nat} {p : T3} (h : xs[k]? = some p) : p.c ≤ roomTo (xs.eraseIdx k) p.a (p.b - p.a).toNat := by
  have hp := hB.2.2.2.1 p (mem_at h)
  unfold OkP at hp
  rw [room_le]
  refine ⟨by omega, fun j hj => ?_⟩
  rw [load_erase h, if_pos (by omega)]
  have := hB.2.2.2.2 (p.a + j).toNat (by omega)
  have e : (((p.a + j).toNat : Nat) : Int) = p.a + j := by omega
  rw [e] at this
  omega
theorem erase_last (xs : List T3) (p : T3) : (xs ++ [p]).eraseIdx xs.length = xs := by
  rw [List.eraseIdx_append_of_length_le (Nat.le_refl _)]
  simp
end Go.Proofs.Ytdfgogcefnamcaa
