/- append(v, x) as a step of a walk, with where the new slice lies. -/
import Derived.Test.YtgjllminidlolaaGreatDoorOwn
import Derived.Maps.AppendAt
set_option linter.unusedVariables false
namespace Go.Proofs.YtgjllminidlolaaGreatDoor
open Go.RowKit

theorem wpList_push_at {P : Program} {α : Type} {ops : Array Oper} {rest : List Oper} {o : Oper} {a : Act} {Q : Exit → Act → World → Prop} {W : World}
    (k bytes ty : Nat) (enc : α → List Value) (hk : ∀ x, (enc x).length = k) (h1 : ∀ x, ∀ u ∈ enc x, u.oneCell' = true) (hk0 : 0 < k) (x : α) (cs : Array Value) (tb : TypeId) (hcs : cs.toList = enc x)
    (hgd : o.guard = none) (s y : Operand) (t : TypeId) (ho : o.op = .call { callee := .builtin .append, args := #[s, y], argTypes := #[t, t] })
    (ht : P.underlying t = some (.slice ty)) {z : Value} (hinfo : (P.info? ty).map (fun i => (i.zero, i.size, i.bytes)) = some (some z, k, bytes)) (hz : z.cells.size = k)
    (base : Nat) (v : Value) (xs : List α) (hs : a.eval s = v) {g : Nat} (hy : a.eval y = .slice (some ⟨g, 0, none⟩) 1 1) (hg : g = W.heap.size) (hown : OwnE k enc ty base W v xs)
    (hbytes : (xs.length + 1) * bytes ≤ 140737488355328) (h63 : xs.length + 1 ≤ maxLen) (hbase : base ≤ W.heap.size)
    (h : ∀ v' w', OwnE k enc ty base w' v' (xs ++ [x]) → W.grownBy w' v.ownBlock → (v'.ownBlock = v.ownBlock ∨ v'.ownBlock = some (W.heap.size + 1)) → wpList P ops Q rest (a.put o.dst v') w') :
    wpList P ops Q (o :: rest) a (W.alloc (.cells cs tb)) := by
  subst hg
  obtain ⟨i0, hi, hz0, hz1, hz2⟩ := info_parts hinfo
  refine wpList_append_own_at _ hgd s y t ho base ty i0 z k bytes ht hi hz0 hz1 hz2 hz hk0 v xs.length (xs.flatMap enc) hs (World.ownsRow.alloc hown _) ⟨W.heap.size, 0, none⟩ 1 1 (enc x) hy (by rw [hk]; omega) ?_ (h1 x) h63 hbytes (by simp; omega) ?_
  · intro j u hj
    have : (cs.toList)[j]? = some u := by rw [hcs]; exact hj
    exact World.news_of_block (heap_alloc_new W _) j u this
  · intro v' w' hown' hg _ hl
    refine h v' w' ?_ ⟨hg.os, hg.tape, hg.output, Nat.le_trans (by simp) hg.size, fun j hj hne => (hg.block j (by simp; omega) hne).trans (Below.heap_alloc W _ j hj)⟩ (by simpa using hl)
    have e : (xs ++ [x]).flatMap enc = xs.flatMap enc ++ enc x := by simp
    unfold OwnE
    rw [e, List.length_append]
    exact hown'
/-- A cell stays where another row grows. -/
theorem grown_cell {w w' : World} {row : Option Nat} {g j : Nat} (h : w.grownBy w' row) (hg : g < w.heap.size) (hne : row ≠ some g) : w'.cell? ⟨g, j, none⟩ = w.cell? ⟨g, j, none⟩ := by
  unfold World.cell?
  rw [h.block g hg (fun e => hne e.symm)]
theorem away_next {v v' : Value} {g n : Nat} (h : v.ownBlock ≠ some g) (hl : v'.ownBlock = v.ownBlock ∨ v'.ownBlock = some n) (hg : g < n) : v'.ownBlock ≠ some g := by
  rcases hl with hl | hl
  · rw [hl]; exact h
  · rw [hl]; intro e; injection e with e; omega
end Go.Proofs.YtgjllminidlolaaGreatDoor
