/- Plain mathematics: the stack of a coach, and how often parcels are moved. -/
import Derived.Test.YtdfgogcefnamcaaPlain
set_option linter.unusedVariables false
namespace Go.Proofs.Ytdfgogcefnamcaa

/-- Take a parcel out, moving those above it. -/
def takeI (st : List Int × Int) (i : Int) : List Int × Int :=
  if i ∈ st.1 then (st.1.eraseIdx (st.1.idxOf i), st.2 + ((st.1.length : Int) - 1 - (st.1.idxOf i : Int))) else st
def takeStep (s : Int) (st : List Int × Int) (p : P4) : List Int × Int := if p.b = s then takeI st p.i else st
def takesP (s : Int) (l : List P4) (st : List Int × Int) : List Int × Int := l.foldl (takeStep s) st
def putStep (s : Int) (is : List Int) (p : P4) : List Int := if p.a = s then is ++ [p.i] else is
def putsP (s : Int) (l : List P4) (is : List Int) : List Int := l.foldl (putStep s) is
def stopI (l : List P4) (s : Int) (st : List Int × Int) : List Int × Int := (putsP s l (takesP s l st).1, (takesP s l st).2)
/-- Behind the stops ahead of j. -/
def runI (l : List P4) : Nat → List Int × Int
  | 0 => ([], 0)
  | j + 1 => stopI l j (runI l j)

theorem takesP_next {s : Int} {l : List P4} {k : Nat} {p : P4} (st : List Int × Int) (h : l[k]? = some p) : takesP s (l.take (k + 1)) st = takeStep s (takesP s (l.take k) st) p := by
  rw [take_next h]; simp [takesP]
theorem putsP_next {s : Int} {l : List P4} {k : Nat} {p : P4} (is : List Int) (h : l[k]? = some p) : putsP s (l.take (k + 1)) is = putStep s (putsP s (l.take k) is) p := by
  rw [take_next h]; simp [putsP]

theorem takeI_bd (st : List Int × Int) (i : Int) : (takeI st i).1.length ≤ st.1.length ∧ st.2 ≤ (takeI st i).2 ∧ (takeI st i).2 ≤ st.2 + st.1.length := by
  unfold takeI
  split
  · rename_i h
    have hlt := List.idxOf_lt_length_iff.2 h
    simp only [List.length_eraseIdx, hlt, if_true]
    omega
  · omega
theorem takesP_bd (s : Int) (l : List P4) (st : List Int × Int) (C : Nat) (hC : st.1.length ≤ C) :
    (takesP s l st).1.length ≤ C ∧ st.2 ≤ (takesP s l st).2 ∧ (takesP s l st).2 ≤ st.2 + l.length * C := by
  induction l generalizing st with
  | nil => simp [takesP]; exact hC
  | cons p l ih =>
    have h1 : (takeStep s st p).1.length ≤ C ∧ st.2 ≤ (takeStep s st p).2 ∧ (takeStep s st p).2 ≤ st.2 + C := by
      unfold takeStep
      split
      · have := takeI_bd st p.i; omega
      · omega
    have h2 := ih (takeStep s st p) h1.1
    have e : takesP s (p :: l) st = takesP s l (takeStep s st p) := rfl
    rw [e]
    have e2 : ((p :: l).length : Int) * C = l.length * C + C := by rw [List.length_cons]; push_cast; rw [Int.add_mul]; omega
    rw [e2]
    omega
theorem putsP_bd (s : Int) (l : List P4) (is : List Int) : (putsP s l is).length ≤ is.length + l.length := by
  induction l generalizing is with
  | nil => simp [putsP]
  | cons p l ih =>
    have e : putsP s (p :: l) is = putsP s l (putStep s is p) := rfl
    have h1 : (putStep s is p).length ≤ is.length + 1 := by unfold putStep; split <;> simp
    have h2 := ih (putStep s is p)
    rw [e, List.length_cons]
    omega
theorem runI_bd (l : List P4) (hl : l.length ≤ 12) (j : Nat) (hj : j ≤ 8) : (runI l j).1.length ≤ 12 * j ∧ 0 ≤ (runI l j).2 ∧ (runI l j).2 ≤ 1152 * j := by
  induction j with
  | zero => simp [runI]
  | succ j ih =>
    have h1 := ih (by omega)
    have h2 := takesP_bd j l (runI l j) 96 (by omega)
    have h3 := takesP_bd j l (runI l j) (12 * j) h1.1
    have h4 := putsP_bd j l (takesP j l (runI l j)).1
    have h5 : (l.length : Int) * 96 ≤ 12 * 96 := Int.mul_le_mul_of_nonneg_right (by omega) (by omega)
    simp only [runI, stopI]
    push_cast at h2 ⊢
    omega

/-! What the stack holds: so that whatever is taken is there. -/
/-- The parcels that are loaded ahead of stop s, in the order in which they are loaded. -/
def ordP (l : List P4) : Nat → List P4
  | 0 => []
  | s + 1 => ordP l s ++ l.filter fun p => p.a = (s : Int)
/-- Whether a loaded parcel is still there at stop s when those with an index below k have been taken out. -/
def still (s k : Int) (p : P4) : Bool := decide (s < p.b ∨ (p.b = s ∧ k ≤ p.i))
theorem putsP_eq (s : Int) (l : List P4) (is : List Int) : putsP s l is = is ++ (l.filter fun p => p.a = s).map (·.i) := by
  induction l generalizing is with
  | nil => simp [putsP]
  | cons p l ih =>
    have e : putsP s (p :: l) is = putsP s l (putStep s is p) := rfl
    rw [e, ih]
    unfold putStep
    by_cases h : p.a = s <;> simp [h]
/-- Packets whose indexes are their places. -/
def Placed (l : List P4) (b0 : Int) : Prop := ∀ (k : Nat) (p : P4), l[k]? = some p → p.i = b0 + k
theorem placed_packs (xs : List T3) : Placed (packs xs) 0 := fun k p h => by
  obtain ⟨q, _, rfl⟩ := packs_at h
  simp
theorem Placed.inj {l : List P4} {b0 : Int} (h : Placed l b0) {p q : P4} (hp : p ∈ l) (hq : q ∈ l) (e : p.i = q.i) : p = q := by
  obtain ⟨j, hj⟩ := List.getElem?_of_mem hp
  obtain ⟨k, hk⟩ := List.getElem?_of_mem hq
  have h1 := h j p hj
  have h2 := h k q hk
  have : j = k := by omega
  subst this
  rw [hj] at hk
  exact Option.some.inj hk
theorem nodup_map_i {l : List P4} {b0 : Int} (h : Placed l b0) : (l.map (·.i)).Nodup := by
  rw [List.nodup_iff_pairwise_ne, List.pairwise_iff_getElem]
  intro i j hi hj hij e
  simp only [List.length_map] at hi hj
  simp only [List.getElem_map] at e
  have h1 := h i _ (List.getElem?_eq_getElem hi)
  have h2 := h j _ (List.getElem?_eq_getElem hj)
  omega
theorem mem_ordP {l : List P4} (hab : ∀ p ∈ l, 0 ≤ p.a ∧ p.a < p.b) {p : P4} : ∀ s : Nat, p ∈ ordP l s ↔ p ∈ l ∧ p.a < s
  | 0 => by
    simp only [ordP, List.not_mem_nil, false_iff, not_and]
    intro h
    have := hab p h
    omega
  | s + 1 => by
    simp only [ordP, List.mem_append, mem_ordP hab s, List.mem_filter, decide_eq_true_eq]
    constructor
    · rintro (⟨h1, h2⟩ | ⟨h1, h2⟩)
      · exact ⟨h1, by omega⟩
      · exact ⟨h1, by omega⟩
    · rintro ⟨h1, h2⟩
      by_cases h : p.a = s
      · exact .inr ⟨h1, h⟩
      · exact .inl ⟨h1, by omega⟩
theorem nodup_ordP {l : List P4} (hl : Placed l 0) (hab : ∀ p ∈ l, 0 ≤ p.a ∧ p.a < p.b) : ∀ s : Nat, ((ordP l s).map (·.i)).Nodup
  | 0 => by simp [ordP]
  | s + 1 => by
    simp only [ordP, List.map_append]
    refine List.nodup_append.2 ⟨nodup_ordP hl hab s, (nodup_map_i hl).sublist (List.filter_sublist.map _), ?_⟩
    intro a ha b hb e
    simp only [List.mem_map, List.mem_filter, decide_eq_true_eq] at ha hb
    obtain ⟨p, hp, rfl⟩ := ha
    obtain ⟨q, ⟨hq, hqa⟩, rfl⟩ := hb
    have h1 := (mem_ordP hab s).1 hp
    have h2 := hl.inj h1.1 hq e
    subst h2
    omega
theorem erase_map {X : List P4} (hn : (X.map (·.i)).Nodup) (k : Int) : (X.map (·.i)).erase k = (X.filter fun p => p.i != k).map (·.i) := by
  rw [hn.erase_eq_filter, List.filter_map]
  rfl
theorem takes_form {l : List P4} (hl : Placed l 0) (hab : ∀ p ∈ l, 0 ≤ p.a ∧ p.a < p.b) (s : Nat) (hr : (runI l s).1 = ((ordP l s).filter (still s 0)).map (·.i)) :
    ∀ k : Nat, k ≤ l.length → (takesP s (l.take k) (runI l s)).1 = ((ordP l s).filter (still s k)).map (·.i)
  | 0, _ => by simpa [takesP] using hr
  | k + 1, hk => by
    have hp : l[k]? = some l[k] := List.getElem?_eq_getElem (by omega)
    have ih := takes_form hl hab s hr k (by omega)
    have hi := hl k _ hp
    rw [takesP_next _ hp]
    generalize l[k] = p at *
    have hpl := List.mem_of_getElem? hp
    have ha := hab p hpl
    simp only [Int.zero_add] at hi
    unfold takeStep
    by_cases hb : p.b = s
    · rw [if_pos hb]
      have hmem : p.i ∈ (takesP s (l.take k) (runI l s)).1 := by
        rw [ih]
        refine List.mem_map.2 ⟨p, List.mem_filter.2 ⟨(mem_ordP hab s).2 ⟨hpl, by omega⟩, ?_⟩, rfl⟩
        simp only [still, decide_eq_true_eq]
        omega
      unfold takeI
      rw [if_pos hmem]
      simp only
      rw [← List.erase_eq_eraseIdx_of_idxOf rfl, ih, erase_map ((nodup_ordP hl hab s).sublist (List.filter_sublist.map _)), List.filter_filter]
      congr 1
      refine List.filter_congr fun q hq => ?_
      have hq1 := (mem_ordP hab s).1 hq
      by_cases e : q.i = p.i
      · have := hl.inj hq1.1 hpl e
        subst this
        simp only [bne_self_eq_false, Bool.false_and, still]
        simp only [Bool.false_eq, decide_eq_false_iff_not]
        omega
      · have : (q.i != p.i) = true := by simpa using e
        simp only [this, Bool.true_and, still]
        congr 1
        refine propext ?_
        constructor
        · rintro (h | ⟨h1, h2⟩)
          · exact .inl h
          · exact .inr ⟨h1, by omega⟩
        · rintro (h | ⟨h1, h2⟩)
          · exact .inl h
          · exact .inr ⟨h1, by omega⟩
    · rw [if_neg hb, ih]
      congr 1
      refine List.filter_congr fun q hq => ?_
      have hq1 := (mem_ordP hab s).1 hq
      simp only [still]
      congr 1
      refine propext ?_
      constructor
      · rintro (h | ⟨h1, h2⟩)
        · exact .inl h
        · refine .inr ⟨h1, ?_⟩
          by_cases e : q.i = p.i
          · have := hl.inj hq1.1 hpl e
            subst this
            exact absurd h1 hb
          · omega
      · rintro (h | ⟨h1, h2⟩)
        · exact .inl h
        · exact .inr ⟨h1, by omega⟩
theorem run_form {l : List P4} (hl : Placed l 0) (hab : ∀ p ∈ l, 0 ≤ p.a ∧ p.a < p.b) : ∀ s : Nat, (runI l s).1 = ((ordP l s).filter (still s 0)).map (·.i)
  | 0 => by simp [runI, ordP]
  | s + 1 => by
    have h := takes_form hl hab s (run_form hl hab s) l.length (Nat.le_refl _)
    rw [List.take_length] at h
    simp only [runI, stopI, putsP_eq, h, ordP, List.filter_append, List.map_append]
    congr 1
    · congr 1
      refine List.filter_congr fun q hq => ?_
      have hq1 := (mem_ordP hab s).1 hq
      obtain ⟨j, hj⟩ := List.getElem?_of_mem hq1.1
      have hi := hl j q hj
      have hjl := (List.getElem?_eq_some_iff.1 hj).1
      simp only [still]
      congr 1
      refine propext ?_
      push_cast
      omega
    · congr 1
      refine (List.filter_eq_self.2 fun q hq => ?_).symm
      obtain ⟨hq1, hq2⟩ := List.mem_filter.1 hq
      have ha := hab q hq1
      obtain ⟨j, hj⟩ := List.getElem?_of_mem hq1
      have hi := hl j q hj
      simp only [decide_eq_true_eq] at hq2
      simp only [still, decide_eq_true_eq]
      push_cast
      omega
/-- What is to be taken out is there. -/
theorem take_there {l : List P4} (hl : Placed l 0) (hab : ∀ p ∈ l, 0 ≤ p.a ∧ p.a < p.b) (s : Nat) {k : Nat} {p : P4} (hp : l[k]? = some p) (hb : p.b = s) : p.i ∈ (takesP s (l.take k) (runI l s)).1 := by
  have hk := (List.getElem?_eq_some_iff.1 hp).1
  rw [takes_form hl hab s (run_form hl hab s) k (by omega)]
  have ha := hab p (List.mem_of_getElem? hp)
  have hi := hl k p hp
  refine List.mem_map.2 ⟨p, List.mem_filter.2 ⟨(mem_ordP hab s).2 ⟨List.mem_of_getElem? hp, by omega⟩, ?_⟩, rfl⟩
  simp only [still, decide_eq_true_eq]
  omega
end Go.Proofs.Ytdfgogcefnamcaa
