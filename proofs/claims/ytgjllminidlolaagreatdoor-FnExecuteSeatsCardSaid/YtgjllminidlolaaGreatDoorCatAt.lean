/- append(v, s...) as a step of a walk, with where the new slice lies. -/
import Derived.Test.YtgjllminidlolaaGreatDoorCat
import Derived.Maps.AppendAt
set_option linter.unusedVariables false
namespace Go.Proofs.YtgjllminidlolaaGreatDoor
open Go.RowKit

section
variable {P : Program} {α : Type} {k bytes ty base : Nat} {enc : α → List Value} {W : World} {v : Value} {xs ys : List α}
theorem run_cat_at (hk : ∀ x, (enc x).length = k) (h1 : ∀ x, ∀ u ∈ enc x, u.oneCell' = true) (hk0 : 0 < k) {t tr : TypeId} (ht : P.underlying t = some (.slice ty)) {z : Value}
    (hinfo : (P.info? ty).map (fun i => (i.zero, i.size, i.bytes)) = some (some z, k, bytes)) (hz : z.cells.size = k) (hown : OwnE k enc ty base W v xs) {A : Option Addr} {m c : Nat} (hs : SlE k enc W A m ys)
    (hbytes : (xs.length + m) * bytes ≤ 140737488355328) (h63 : xs.length + m ≤ maxLen) (hbase : base ≤ W.heap.size) :
    ∃ v' w', (Builtin.append_ #[t, t] tr #[v, .slice A m c]).run P W = .ok v' w' ∧ OwnE k enc ty base w' v' (xs ++ ys) ∧ W.grownBy w' v.ownBlock ∧ (v'.ownBlock = v.ownBlock ∨ v'.ownBlock = some W.heap.size) := by
  obtain ⟨i0, hi, hz0, hz1, hz2⟩ := info_parts hinfo
  have hm := hs.len
  subst hm
  have hfl : ((xs ++ ys).flatMap enc) = xs.flatMap enc ++ ys.flatMap enc := by simp
  rcases A with _ | ad
  · have hm : ys.length = 0 := by
      rcases Nat.eq_zero_or_pos ys.length with h0 | h0
      · exact h0
      · obtain ⟨b, off, hA, _⟩ := hs.2 h0
        cases hA
    have hy : ys = [] := List.eq_nil_of_length_eq_zero hm
    subst hy
    refine ⟨v, W, ?_, by simpa using hown, World.grownBy.refl _ _, .inl rfl⟩
    rcases hown.2 with ⟨rfl, hx0⟩ | ⟨g, cap, cur, rfl, _, _, hnc, _⟩
    · simp [Builtin.append_, run_underlying ht, sizeOf, typeInfo, hi, Builtin.lenOf, Builtin.firstCells]
    · simp [Builtin.append_, run_underlying ht, sizeOf, typeInfo, hi, Builtin.lenOf, Builtin.firstCells, hnc, storeCells]
  · have hnews : ∀ j u, (ys.flatMap enc)[j]? = some u → W.cell? (ad.add j) = some u := by
      intro j u hu
      have hl : j < ys.length * k := by
        rcases Nat.lt_or_ge j (ys.length * k) with h | h
        · exact h
        · rw [List.getElem?_eq_none (by rw [flat_len hk]; exact h)] at hu; cases hu
      have h0 : 0 < ys.length := by
        rcases Nat.eq_zero_or_pos ys.length with h0 | h0
        · rw [h0] at hl; omega
        · exact h0
      obtain ⟨b, off, hA, _, hc⟩ := hs.2 h0
      injection hA with hA
      subst hA
      have hj : j / k < ys.length := (Nat.div_lt_iff_lt_mul hk0).2 hl
      have hi' : j % k < (enc ys[j / k]).length := by rw [hk]; exact Nat.mod_lt _ hk0
      have e : j / k * k + j % k = j := by rw [Nat.mul_comm]; exact Nat.div_add_mod j k
      have h3 := flat_at hk ys (j / k) _ (List.getElem?_eq_getElem hj) (j % k) _ (List.getElem?_eq_getElem hi')
      rw [e, hu] at h3
      have h4 := hc (j / k) _ (List.getElem?_eq_getElem hj) (j % k) _ (List.getElem?_eq_getElem hi')
      rw [e, ← h3] at h4
      unfold Addr.add
      split
      · rename_i hj0; rw [hj0] at h4; exact h4
      · exact h4
    obtain ⟨v', w', hr, h2, h3, _, h5⟩ := run_append_own_at (P := P) W base t tr ty i0 z k bytes ht hi hz0 hz1 hz2 hz hk0 v xs.length (xs.flatMap enc) hown ad ys.length c (ys.flatMap enc) (by rw [flat_len hk]) hnews
      (by intro u hu; obtain ⟨x, _, hx⟩ := List.mem_flatMap.1 hu; exact h1 x u hx) h63 hbytes hbase
    refine ⟨v', w', hr, ?_, h3, h5⟩
    unfold OwnE
    rw [hfl, List.length_append]
    exact h2
/-- append(v, s...) as a step of a walk. -/
theorem wpList_cat_at {ops : Array Oper} {rest : List Oper} {o : Oper} {a : Act} {Q : Exit → Act → World → Prop} (hk : ∀ x, (enc x).length = k) (h1 : ∀ x, ∀ u ∈ enc x, u.oneCell' = true) (hk0 : 0 < k)
    (hgd : o.guard = none) (s y : Operand) (t : TypeId) (ho : o.op = .call { callee := .builtin .append, args := #[s, y], argTypes := #[t, t] })
    (ht : P.underlying t = some (.slice ty)) {z : Value} (hinfo : (P.info? ty).map (fun i => (i.zero, i.size, i.bytes)) = some (some z, k, bytes)) (hz : z.cells.size = k)
    (v : Value) (xs : List α) (hsv : a.eval s = v) (hown : OwnE k enc ty base W v xs) {A : Option Addr} {m c : Nat} (hy : a.eval y = .slice A m c) (hs : SlE k enc W A m ys)
    (hbytes : (xs.length + m) * bytes ≤ 140737488355328) (h63 : xs.length + m ≤ maxLen) (hbase : base ≤ W.heap.size)
    (h : ∀ v' w', OwnE k enc ty base w' v' (xs ++ ys) → W.grownBy w' v.ownBlock → (v'.ownBlock = v.ownBlock ∨ v'.ownBlock = some W.heap.size) → wpList P ops Q rest (a.put o.dst v') w') :
    wpList P ops Q (o :: rest) a W := by
  obtain ⟨v', w', hr, h2, h3, h5⟩ := run_cat_at (P := P) (tr := o.type) hk h1 hk0 ht hinfo hz hown hs hbytes h63 hbase (c := c)
  exact Lib.wpList_append_run W hgd s y t t ho _ _ hsv hy v' w' hr (h v' w' h2 h3 h5)
end
end Go.Proofs.YtgjllminidlolaaGreatDoor
