/- Contracts: obey. -/
import Derived.Test.YtgjllminidlolaaGreatDoorEWalkG
import Derived.Test.YtgjllminidlolaaGreatDoorEWalkD
set_option linter.unusedVariables false
namespace Go.Proofs.YtgjllminidlolaaGreatDoor
open Go.RowKit

/-- A line has been obeyed. -/
def Obeyed (w0 : World) (R : Nat) (s' : LSt) (out : List ByteArray) (av : Nat → Prop) (W : World) (e : Ending) (W' : World) : Prop :=
  ∃ v, e = .returned v ∧ OwnE 1 encS 9 W.heap.size W' v out ∧ W.grownBy W' (some R) ∧ St w0 R s' av W'

set_option maxRecDepth 20000 in
set_option maxHeartbeats 1600000 in
theorem obey_what (w0 : World) (R : Nat) (s : LSt) (av : Nat → Prop) (l : ByteArray) (m : Nat) (w : World) (hs : St w0 R s av w) (ha : ∀ j, w.heap.size ≤ j → ¬ av j)
    (hp : ∀ W, Below w.heap.size w W → Calls Tryz.prog 67 #[.string l] W (ParseNo m W)) :
    Calls Tryz.prog 36 #[.pointer (some ⟨R, 0, none⟩), .string l] w (Obeyed w0 R s [bs whatL] av w) := by
  have HS := Lib.hid hs
  have HP := Lib.hid hp
  have HB0 := Lib.hid (below_alloc (Below.refl w.heap.size w) (.cells #[.slice none 0 0] 60))
  clear hs hp
  have hmf : ∀ (fn : Fn) (first cap : Array Value) (w : World), (Instr.makeFunc fn first cap).run Tryz.prog w = .ok (.func fn first cap) w := fun _ _ _ _ => rfl
  go_enter_defers Tryz.func36, Tryz.ntmps36
  go_wp2_with fail
  refine (HP.out _ HB0.out).mono ?_
  rintro e w2 ⟨rfl, hb2⟩
  have hgs : (w.alloc (.cells #[.slice none 0 0] 60)).heap.size = w.heap.size + 1 := by
    show (w.heap.push _).size = _
    rw [Array.size_push]
  have hsz2 := hb2.size
  have hg2 : w.heap.size < w2.heap.size := by omega
  have hc2 : w2.cell? ⟨w.heap.size, 0, none⟩ = some (.slice none 0 0) := by
    rw [hb2.cell (by show w.heap.size < _; omega)]
    simp
  have hz2 : w2.frozen? ⟨w.heap.size, 0, none⟩ = false := by
    rw [hb2.frozen (by show w.heap.size < _; omega)]
    simp
  have HB2 := Lib.hid (below_trans HB0.out hb2)
  clear hb2 HB0
  go_wp2_with fail
  have hO := own_new (enc := encS) (k := 1) (w2.alloc (.cells #[.int .i64 m] 109)) 9 (w2.heap.size + 1) (by show _ ≤ (w2.heap.push _).size; rw [Array.size_push]; omega) encS_len [bs whatL] #[.string (bs whatL)] rfl (by unfold maxLen; simp) rfl
  have hB := ((below_alloc (below_alloc HB2.out (.cells #[.int .i64 m] 109)) (.cells #[.string (bs whatL)] 9))).setCell (p := ⟨w.heap.size, 0, none⟩) (Nat.le_refl _) (.slice (some ⟨w2.heap.size + 1, 0, none⟩) 1 1)
  refine leaves_cons (f := 66) (args := #[.pointer (some ⟨w.heap.size, 0, none⟩)]) (by simp) (by simp [go_sem]) ?_
  refine (catch_what w.heap.size none 0 0 m [] w2 hc2 hz2 hg2).mono ?_
  rintro e u' w'' ⟨rfl, rfl, rfl⟩
  have hcc : (((w2.alloc (.cells #[.int .i64 m] 109)).alloc (.cells #[.string (bs whatL)] 9)).setCell ⟨w.heap.size, 0, none⟩ (.slice (some ⟨w2.heap.size + 1, 0, none⟩) 1 1)).cell? ⟨w.heap.size, 0, none⟩ = some (.slice (some ⟨w2.heap.size + 1, 0, none⟩) 1 1) :=
    World.cell?_setCell_same _ _ _ (u := .slice none 0 0) (by rw [(below_alloc (below_alloc (Below.refl w2.heap.size w2) _) _).cell hg2]; exact hc2)
  refine ⟨.slice (some ⟨w2.heap.size + 1, 0, none⟩) 1 1, ?_, _, rfl, ?_, grown_of_below hB _, HS.out.below hB⟩
  · simp [results, Tryz.results36, go_sem, hcc]
  · have hs1 : (w2.alloc (.cells #[.int .i64 m] 109)).heap.size = w2.heap.size + 1 := by
      show (w2.heap.push _).size = _
      rw [Array.size_push]
    rw [hs1] at hO
    exact (hO.apart (grown_setCell _ ⟨w.heap.size, 0, none⟩ _) (noBad_ne (bad := fun i => i = w.heap.size) (fun i hi hb => by have := (hO.lt i hi).1; omega) rfl)).base_le (by omega)
end Go.Proofs.YtgjllminidlolaaGreatDoor
