/- Appending a whole slice to a row of the call's own; slices.Concat, slices.Grow and slices of slices. -/
import Derived.Test.YtgjllminidlolaaGreatDoorOwn
import Derived.Lib.AppendZeros
set_option linter.unusedVariables false
namespace Go.Proofs.YtgjllminidlolaaGreatDoor
open Go.RowKit

section
variable {P : Program} {α : Type} {k bytes ty base : Nat} {enc : α → List Value} {W : World} {v : Value} {xs ys : List α}
theorem run_cat (hk : ∀ x, (enc x).length = k) (h1 : ∀ x, ∀ u ∈ enc x, u.oneCell' = true) (hk0 : 0 < k) {t tr : TypeId} (ht : P.underlying t = some (.slice ty)) {z : Value}
    (hinfo : (P.info? ty).map (fun i => (i.zero, i.size, i.bytes)) = some (some z, k, bytes)) (hz : z.cells.size = k) (hown : OwnE k enc ty base W v xs) {A : Option Addr} {m c : Nat} (hs : SlE k enc W A m ys)
    (hbytes : (xs.length + m) * bytes ≤ 140737488355328) (h63 : xs.length + m ≤ maxLen) (hbase : base ≤ W.heap.size) :
    ∃ v' w', (Builtin.append_ #[t, t] tr #[v, .slice A m c]).run P W = .ok v' w' ∧ OwnE k enc ty base w' v' (xs ++ ys) ∧ W.grownBy w' v.ownBlock := by
  obtain ⟨i0, hi, hz0, hz1, hz2⟩ := info_parts hinfo
  have hm := hs.len
  subst hm
  have hfl : ((xs ++ ys).flatMap enc) = xs.flatMap enc ++ ys.flatMap enc := by simp
  rcases A with _ | ad
  · have hm : ys.length = 0 := by
      rcases Nat.eq_zero_or_pos ys.length with h0 | h0
      · exact h0
      · obtain ⟨b, off, hA, _⟩ := hs.2 h0
        cases hA
    have hy : ys = [] := List.eq_nil_of_length_eq_zero hm
    subst hy
    refine ⟨v, W, ?_, by simpa using hown, World.grownBy.refl _ _⟩
    rcases hown.2 with ⟨rfl, hx0⟩ | ⟨g, cap, cur, rfl, _, _, hnc, _⟩
    · simp [Builtin.append_, run_underlying ht, sizeOf, typeInfo, hi, Builtin.lenOf, Builtin.firstCells]
    · simp [Builtin.append_, run_underlying ht, sizeOf, typeInfo, hi, Builtin.lenOf, Builtin.firstCells, hnc, storeCells]
  · have hnews : ∀ j u, (ys.flatMap enc)[j]? = some u → W.cell? (ad.add j) = some u := by
      intro j u hu
      have hl : j < ys.length * k := by
        rcases Nat.lt_or_ge j (ys.length * k) with h | h
        · exact h
        · rw [List.getElem?_eq_none (by rw [flat_len hk]; exact h)] at hu; cases hu
      have h0 : 0 < ys.length := by
        rcases Nat.eq_zero_or_pos ys.length with h0 | h0
        · rw [h0] at hl; omega
        · exact h0
      obtain ⟨b, off, hA, _, hc⟩ := hs.2 h0
      injection hA with hA
      subst hA
      have hj : j / k < ys.length := (Nat.div_lt_iff_lt_mul hk0).2 hl
      have hi' : j % k < (enc ys[j / k]).length := by rw [hk]; exact Nat.mod_lt _ hk0
      have e : j / k * k + j % k = j := by rw [Nat.mul_comm]; exact Nat.div_add_mod j k
      have h3 := flat_at hk ys (j / k) _ (List.getElem?_eq_getElem hj) (j % k) _ (List.getElem?_eq_getElem hi')
      rw [e, hu] at h3
      have h4 := hc (j / k) _ (List.getElem?_eq_getElem hj) (j % k) _ (List.getElem?_eq_getElem hi')
      rw [e, ← h3] at h4
      unfold Addr.add
      split
      · rename_i hj0; rw [hj0] at h4; exact h4
      · exact h4
    obtain ⟨v', w', hr, h2, h3, _⟩ := run_append_own (P := P) W base t tr ty i0 z k bytes ht hi hz0 hz1 hz2 hz hk0 v xs.length (xs.flatMap enc) hown ad ys.length c (ys.flatMap enc) (by rw [flat_len hk]) hnews
      (by intro u hu; obtain ⟨x, _, hx⟩ := List.mem_flatMap.1 hu; exact h1 x u hx) h63 hbytes hbase
    refine ⟨v', w', hr, ?_, h3⟩
    unfold OwnE
    rw [hfl, List.length_append]
    exact h2
/-- append(v, s...) as a step of a walk. -/
theorem wpList_cat {ops : Array Oper} {rest : List Oper} {o : Oper} {a : Act} {Q : Exit → Act → World → Prop} (hk : ∀ x, (enc x).length = k) (h1 : ∀ x, ∀ u ∈ enc x, u.oneCell' = true) (hk0 : 0 < k)
    (hgd : o.guard = none) (s y : Operand) (t : TypeId) (ho : o.op = .call { callee := .builtin .append, args := #[s, y], argTypes := #[t, t] })
    (ht : P.underlying t = some (.slice ty)) {z : Value} (hinfo : (P.info? ty).map (fun i => (i.zero, i.size, i.bytes)) = some (some z, k, bytes)) (hz : z.cells.size = k)
    (v : Value) (xs : List α) (hsv : a.eval s = v) (hown : OwnE k enc ty base W v xs) {A : Option Addr} {m c : Nat} (hy : a.eval y = .slice A m c) (hs : SlE k enc W A m ys)
    (hbytes : (xs.length + m) * bytes ≤ 140737488355328) (h63 : xs.length + m ≤ maxLen) (hbase : base ≤ W.heap.size)
    (h : ∀ v' w', OwnE k enc ty base w' v' (xs ++ ys) → W.grownBy w' v.ownBlock → wpList P ops Q rest (a.put o.dst v') w') :
    wpList P ops Q (o :: rest) a W := by
  obtain ⟨v', w', hr, h2, h3⟩ := run_cat (P := P) (tr := o.type) hk h1 hk0 ht hinfo hz hown hs hbytes h63 hbase (c := c)
  exact Lib.wpList_append_run W hgd s y t t ho _ _ hsv hy v' w' hr (h v' w' h2 h3)
theorem step_cat {ops : Array Oper} {o : Oper} {a : Act} {K : Act → World → Prop} {Q : Exit → Act → World → Prop} {E : Prop} (hk : ∀ x, (enc x).length = k) (h1 : ∀ x, ∀ u ∈ enc x, u.oneCell' = true) (hk0 : 0 < k)
    (hgd : o.guard = none) (s y : Operand) (t : TypeId) (ho : o.op = .call { callee := .builtin .append, args := #[s, y], argTypes := #[t, t] })
    (ht : P.underlying t = some (.slice ty)) {z : Value} (hinfo : (P.info? ty).map (fun i => (i.zero, i.size, i.bytes)) = some (some z, k, bytes)) (hz : z.cells.size = k)
    (v : Value) (xs : List α) (hsv : a.eval s = v) (hown : OwnE k enc ty base W v xs) {A : Option Addr} {m c : Nat} (hy : a.eval y = .slice A m c) (hs : SlE k enc W A m ys)
    (hbytes : (xs.length + m) * bytes ≤ 140737488355328) (h63 : xs.length + m ≤ maxLen) (hbase : base ≤ W.heap.size)
    (h : ∀ v' w', OwnE k enc ty base w' v' (xs ++ ys) → W.grownBy w' v.ownBlock → K (a.put o.dst v') w') :
    if Region.wanted o (yielded ops a.tmps) = true then Oper.wp P o a W K Q else E := by
  rw [if_pos (by simp [Region.wanted, hgd])]
  obtain ⟨v', w', hr, h2, h3⟩ := run_cat (P := P) (tr := o.type) hk h1 hk0 ht hinfo hz hown hs hbytes h63 hbase (c := c)
  exact Lib.wp_append_run W s y t t ho _ _ hsv hy v' w' hr (h v' w' h2 h3)
end

/-- clear of what lies behind the elements. -/
theorem run_clear_tail {P : Program} {α : Type} {k bytes ty base : Nat} {enc : α → List Value} {W : World} {xs : List α} (hk : ∀ x, (enc x).length = k) {t tr : TypeId} (ht : P.underlying t = some (.slice ty)) {z : Value}
    (hinfo : (P.info? ty).map (fun i => (i.zero, i.size, i.bytes)) = some (some z, k, bytes)) (hz : z.cells.size = k) (hz1 : ∀ u ∈ z.cells.toList, u.oneCell' = true) {g n cap m c : Nat}
    (hown : OwnE k enc ty base W (.slice (some ⟨g, 0, none⟩) n cap) xs) (hn : xs.length = n) (hm : 0 < m) (hroom : n + m ≤ cap) :
    ∃ w', (Builtin.clear_ #[t] tr #[.slice (some ⟨g, n * k, none⟩) m c]).run P W = .ok (.tuple #[]) w' ∧ OwnE k enc ty base w' (.slice (some ⟨g, 0, none⟩) n cap) xs ∧ W.grownBy w' (some g) := by
  obtain ⟨i0, hi, hz0, hs, hb⟩ := info_parts hinfo
  subst hn
  rcases hown.2 with ⟨h', _⟩ | ⟨g', cap', cur, h', hb', hg, hnc, hcm, hcs, htake⟩
  · simp at h'
  · injection h' with e1 e2 e3
    injection e1 with e1
    injection e1 with e1
    subst e1 e3
    have hl : (Builtin.zeroCells z.cells m).toList.length = m * k := by rw [Array.length_toList, size_zeroCells, hz]
    have hone : ∀ u ∈ (Builtin.zeroCells z.cells m).toList, u.oneCell' = true := by
      intro u hu
      simp only [Builtin.zeroCells, Array.toList_map, Array.toList_range, List.mem_map, List.mem_range] at hu
      obtain ⟨j, hj, rfl⟩ := hu
      have hp : 0 < z.cells.size := by
        rcases Nat.eq_zero_or_pos z.cells.size with h0 | h0
        · rw [h0] at hj; omega
        · exact h0
      have hj' : j % z.cells.size < z.cells.size := Nat.mod_lt _ hp
      rw [getElem!_pos z.cells _ hj']
      exact hz1 _ (Array.getElem_mem_toList hj')
    have hst := run_storeCells_at P g (xs.length * k) ty (Builtin.zeroCells z.cells m).toList 0 cur W hg (by rw [hl, hcs, Nat.add_zero, ← Nat.add_mul]; exact Nat.mul_le_mul_right _ hroom) hone
    simp only [Nat.add_zero] at hst
    have hrun : (Builtin.clear_ #[t] tr #[.slice (some ⟨g, xs.length * k, none⟩) m c]).run P W = .ok (.tuple #[]) (W.setRow g (cur.toList.take (xs.length * k) ++ (Builtin.zeroCells z.cells m).toList ++ cur.toList.drop (xs.length * k + (Builtin.zeroCells z.cells m).toList.length)).toArray) := by
      obtain ⟨m', rfl⟩ : ∃ m', m = m' + 1 := ⟨m - 1, by omega⟩
      simp [Builtin.clear_, run_underlying ht, zeroValue, typeInfo, hi, hz0] at hst ⊢
      rw [hst]
      simp
    refine ⟨_, hrun, ⟨flat_len hk _, .inr ⟨g, cap, _, rfl, hb', setRow_heap W g cur _ ty _ hg, hnc, hcm, ?_, ?_⟩⟩, ⟨rfl, rfl, rfl, by simp, fun j _ hj => setRow_other W g j _ (fun e => hj (by rw [e]))⟩⟩
    · have h1 : (xs.length + m) * k ≤ cap * k := Nat.mul_le_mul_right _ hroom
      rw [Nat.add_mul] at h1
      simp only [List.size_toArray, List.length_append, List.length_take, List.length_drop, Array.length_toList, hl, hcs]
      omega
    · have h1 : (xs.length + m) * k ≤ cap * k := Nat.mul_le_mul_right _ hroom
      rw [Nat.add_mul] at h1
      have hcl : cur.toList.length = cap * k := by rw [Array.length_toList (xs := cur), hcs]
      rw [List.append_assoc, List.take_left' (by rw [List.length_take, hcl]; omega)]
      exact htake
/-- append(v, s...) where there is room. -/
theorem step_cat_fits {P : Program} {α : Type} {k bytes ty base : Nat} {enc : α → List Value} {W : World} {xs ys : List α} {ops : Array Oper} {o : Oper} {a : Act} {K : Act → World → Prop} {Q : Exit → Act → World → Prop} {E : Prop} (hk : ∀ x, (enc x).length = k) (h1 : ∀ x, ∀ u ∈ enc x, u.oneCell' = true) (hk0 : 0 < k)
    (hgd : o.guard = none) (s y : Operand) (t : TypeId) (ho : o.op = .call { callee := .builtin .append, args := #[s, y], argTypes := #[t, t] })
    (ht : P.underlying t = some (.slice ty)) {z : Value} (hinfo : (P.info? ty).map (fun i => (i.zero, i.size, i.bytes)) = some (some z, k, bytes))
    {g n cap : Nat} (hsv : a.eval s = .slice (some ⟨g, 0, none⟩) n cap) (hown : OwnE k enc ty base W (.slice (some ⟨g, 0, none⟩) n cap) xs) (hn : xs.length = n) {A : Option Addr} {m c : Nat} (hA : A.isSome = true) (hy : a.eval y = .slice A m c) (hs : SlE k enc W A m ys)
    (hroom : n + m ≤ cap)
    (h : ∀ w', OwnE k enc ty base w' (.slice (some ⟨g, 0, none⟩) (n + m) cap) (xs ++ ys) → W.grownBy w' (some g) → K (a.put o.dst (.slice (some ⟨g, 0, none⟩) (n + m) cap)) w') :
    if Region.wanted o (yielded ops a.tmps) = true then Oper.wp P o a W K Q else E := by
  rw [if_pos (by simp [Region.wanted, hgd])]
  obtain ⟨i0, hi, hz0, hz1, hz2⟩ := info_parts hinfo
  have hm := hs.len
  subst hn hm
  obtain ⟨ad, rfl⟩ := Option.isSome_iff_exists.1 hA
  have hnews : ∀ j u, (ys.flatMap enc)[j]? = some u → W.cell? (ad.add j) = some u := by
    intro j u hu
    have hl : j < ys.length * k := by
      rcases Nat.lt_or_ge j (ys.length * k) with h | h
      · exact h
      · rw [List.getElem?_eq_none (by rw [flat_len hk]; exact h)] at hu; cases hu
    have h0 : 0 < ys.length := by
      rcases Nat.eq_zero_or_pos ys.length with h0 | h0
      · rw [h0] at hl; omega
      · exact h0
    obtain ⟨b', off', hA', _, hc⟩ := hs.2 h0
    injection hA' with hA'
    subst hA'
    have hj : j / k < ys.length := (Nat.div_lt_iff_lt_mul hk0).2 hl
    have hi' : j % k < (enc ys[j / k]).length := by rw [hk]; exact Nat.mod_lt _ hk0
    have e : j / k * k + j % k = j := by rw [Nat.mul_comm]; exact Nat.div_add_mod j k
    have h3 := flat_at hk ys (j / k) _ (List.getElem?_eq_getElem hj) (j % k) _ (List.getElem?_eq_getElem hi')
    rw [e, hu] at h3
    have h4 := hc (j / k) _ (List.getElem?_eq_getElem hj) (j % k) _ (List.getElem?_eq_getElem hi')
    rw [e, ← h3] at h4
    unfold Addr.add
    split
    · rename_i hj0; rw [hj0] at h4; exact h4
    · exact h4
  obtain ⟨w', hr, h2, h3⟩ := run_append_fits (P := P) W base t o.type ty i0 k ht hi hz1 g xs.length cap (xs.flatMap enc) hown ad ys.length c (ys.flatMap enc) (by rw [flat_len hk]) hnews
    (by intro u hu; obtain ⟨x, _, hx⟩ := List.mem_flatMap.1 hu; exact h1 x u hx) hroom
  refine Lib.wp_append_run W s y t t ho _ _ hsv hy _ w' hr (h w' ?_ h3)
  have hfl : ((xs ++ ys).flatMap enc) = xs.flatMap enc ++ ys.flatMap enc := by simp
  unfold OwnE
  rw [hfl, List.length_append]
  exact h2
/-- A part of a slice, from its head on. -/
theorem SlE.take {α : Type} {k : Nat} {enc : α → List Value} {w : World} {A : Option Addr} {n : Nat} {xs : List α} (h : SlE k enc w A n xs) {j : Nat} (hj : j ≤ n) : SlE k enc w A j (xs.take j) :=
  ⟨by rw [List.length_take, h.len]; omega, fun hn => by
    obtain ⟨b, off, hA, hlt, hc⟩ := h.2 (by omega)
    exact ⟨b, off, hA, hlt, fun i p hp => hc i p (by rw [List.getElem?_take] at hp; split at hp; exact hp; cases hp)⟩⟩
/-- A part of a slice, up to its end. -/
theorem SlE.drop {α : Type} {k : Nat} {enc : α → List Value} {w : World} {A : Option Addr} {n : Nat} {xs : List α} (h : SlE k enc w A n xs) {j : Nat} (hj : j ≤ n) {A' : Option Addr}
    (hA' : ∀ b off, A = some ⟨b, off, none⟩ → j < n → A' = some ⟨b, off + j * k, none⟩) : SlE k enc w A' (n - j) (xs.drop j) :=
  ⟨by rw [List.length_drop, h.len], fun hn => by
    obtain ⟨b, off, hA, hlt, hc⟩ := h.2 (by omega)
    refine ⟨b, off + j * k, hA' b off hA (by omega), hlt, fun i p hp u v hv => ?_⟩
    rw [List.getElem?_drop] at hp
    have := hc (j + i) p hp u v hv
    rw [Nat.add_mul] at this
    have e : off + j * k + (i * k + u) = off + (j * k + i * k + u) := by omega
    rw [e]
    exact this⟩

theorem addr_add' (b off i : Nat) : (⟨b, off, none⟩ : Addr).add i = ⟨b, off + i, none⟩ := by
  unfold Addr.add
  split
  · rename_i h; subst h; rfl
  · rfl
/-- The same, as the walk spells it. -/
theorem SlE.cut {α : Type} {k : Nat} {enc : α → List Value} {w : World} {A : Option Addr} {n cap : Nat} {xs : List α} (h : SlE k enc w A n xs) {j : Nat} (hj : j ≤ n) (hc : n ≤ cap) :
    SlE k enc w (if cap = j then A else A.map (fun x => x.add (j * k))) (n - j) (xs.drop j) :=
  h.drop hj fun b off hA hjn => by
    rw [if_neg (by omega), hA]
    simp only [Option.map_some, addr_add']
theorem SlE.cut1 {α : Type} {enc : α → List Value} {w : World} {A : Option Addr} {n cap : Nat} {xs : List α} (h : SlE 1 enc w A n xs) {j : Nat} (hj : j ≤ n) (hc : n ≤ cap) :
    SlE 1 enc w (if cap = j then A else A.map (fun x => x.add j)) (n - j) (xs.drop j) := by
  have := h.cut hj hc
  simpa only [Nat.mul_one] using this

/-- A slice value as it is handed on, with what it reads as. -/
structure Sn (α : Type) where
  A : Option Addr
  n : Nat
  c : Nat
  xs : List α
/-- Slices of slices: the cells hold the slice values, each of which reads as its list. -/
def SlS {α : Type} (k : Nat) (enc : α → List Value) (w : World) (A : Option Addr) (m : Nat) (ss : List (Sn α)) : Prop :=
  SlE 1 (fun s : Sn α => [Value.slice s.A s.n s.c]) w A m ss ∧ ∀ s ∈ ss, SlE k enc w s.A s.n s.xs
theorem slS_new {α : Type} {k : Nat} {enc : α → List Value} {w : World} (ss : List (Sn α)) (cs : Array Value) (ty : TypeId) (hcs : cs.toList = ss.map fun s => Value.slice s.A s.n s.c) {m : Nat} (hm : ss.length = m) (h : ∀ s ∈ ss, SlE k enc w s.A s.n s.xs) :
    SlS k enc (w.alloc (.cells cs ty)) (some ⟨w.heap.size, 0, none⟩) m ss := by
  refine ⟨⟨hm, fun hn => ⟨w.heap.size, 0, rfl, by simp, fun j p hp i v hv => ?_⟩⟩, fun s hs => (h s hs).alloc _⟩
  have hi : i = 0 := by
    rcases i with _ | i
    · rfl
    · simp at hv
  subst hi
  simp only [List.getElem?_cons_zero, Option.some.injEq] at hv
  subst hv
  have e : 0 + (j * 1 + 0) = j := by omega
  rw [e, cell_of_row (w.alloc (.cells cs ty)) w.heap.size j cs ty (0, 0) (heap_alloc_new w _), ← Array.getElem?_toList, hcs, List.getElem?_map, hp]
  rfl
def snLen {α : Type} (ss : List (Sn α)) : Nat := (ss.map Sn.n).sum
def snAll {α : Type} (ss : List (Sn α)) : List α := ss.flatMap Sn.xs
theorem SlS.below {α : Type} {k : Nat} {enc : α → List Value} {w w' : World} {A : Option Addr} {m : Nat} {ss : List (Sn α)} (h : SlS k enc w A m ss) (hb : Below w.heap.size w w') : SlS k enc w' A m ss :=
  ⟨h.1.below hb, fun s hs => (h.2 s hs).below hb⟩
theorem SlS.all_len {α : Type} {k : Nat} {enc : α → List Value} {w : World} {A : Option Addr} {m : Nat} {ss : List (Sn α)} (h : SlS k enc w A m ss) : (snAll ss).length = snLen ss := by
  have : ∀ l : List (Sn α), (∀ s ∈ l, SlE k enc w s.A s.n s.xs) → (snAll l).length = snLen l := by
    intro l
    induction l with
    | nil => intro _; rfl
    | cons s l ih =>
      intro hl
      have h1 := ih fun q hq => hl q (List.mem_cons_of_mem _ hq)
      have h2 := (hl s (List.mem_cons_self ..)).len
      simp only [snAll, snLen, List.flatMap_cons, List.length_append, List.map_cons, List.sum_cons] at h1 ⊢
      omega
  exact this ss h.2
theorem snLen_next {α : Type} {ss : List (Sn α)} {j : Nat} {s : Sn α} (h : ss[j]? = some s) : snLen (ss.take (j + 1)) = snLen (ss.take j) + s.n := by
  rw [take_next h]; simp [snLen]
theorem snAll_next {α : Type} {ss : List (Sn α)} {j : Nat} {s : Sn α} (h : ss[j]? = some s) : snAll (ss.take (j + 1)) = snAll (ss.take j) ++ s.xs := by
  rw [take_next h]; simp [snAll]
theorem snLen_append {α : Type} (a b : List (Sn α)) : snLen (a ++ b) = snLen a + snLen b := by simp [snLen]
theorem snLen_take {α : Type} (ss : List (Sn α)) (j : Nat) : snLen (ss.take j) ≤ snLen ss := by
  have h := snLen_append (ss.take j) (ss.drop j)
  rw [List.take_append_drop] at h
  omega
end Go.Proofs.YtgjllminidlolaaGreatDoor
