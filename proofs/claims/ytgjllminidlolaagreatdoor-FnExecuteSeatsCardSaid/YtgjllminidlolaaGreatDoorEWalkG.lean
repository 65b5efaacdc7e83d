/- Contracts: the deferred function of obey. -/
import Derived.Test.YtgjllminidlolaaGreatDoorEWalkF
import Derived.Defers
import Derived.Recover
set_option linter.unusedVariables false
namespace Go.Proofs.YtgjllminidlolaaGreatDoor
open Go.RowKit

theorem asBad (v : Value) (w : World) : (Instr.typeAssert (.iface 109 v) 20 109 true).run Tryz.prog w = .ok (.tuple #[v, .bool true]) w := by
  simp [Instr.typeAssert, run_underlying Tryz.underlying109, Result.andThen]
theorem asNil (w : World) : (Instr.typeAssert .nilIface 20 109 true).run Tryz.prog w = .ok (.tuple #[.agg #[.int .i64 0], .bool false]) w := by
  simp [Instr.typeAssert, run_underlying Tryz.underlying109, Tryz.zeroValue109, Result.andThen]
set_option maxRecDepth 20000 in
set_option maxHeartbeats 1600000 in
theorem catch_what (g : Nat) (A : Option Addr) (l c : Nat) (n : Int) (older : List PanicEntry) (w : World) (hc : w.cell? ⟨g, 0, none⟩ = some (.slice A l c)) (hz : w.frozen? ⟨g, 0, none⟩ = false) (hg : g < w.heap.size) :
    CallsD Tryz.prog 66 #[.pointer (some ⟨g, 0, none⟩)] (.panicking ({ v := .iface 109 (.agg #[.int .i64 n]), recovered := false } :: older)) w fun e u' w' =>
      e = .returned (.tuple #[]) ∧ u' = .panicking ({ v := .iface 109 (.agg #[.int .i64 n]), recovered := true } :: older) ∧
        w' = ((w.alloc (.cells #[.int .i64 n] 109)).alloc (.cells #[.string (bs whatL)] 9)).setCell ⟨g, 0, none⟩ (.slice (some ⟨w.heap.size + 1, 0, none⟩) 1 1) := by
  have ha := asBad
  refine callsD_of_wpS Tryz.func66 rfl fun c₀ cs hu => ?_
  apply wpS_seq
  apply wpS_region
  simp [wpOpsS, go_sem, recoverD, hu, Tryz.ntmps66, Exit.thenS, ha]
  apply wpS_seq
  apply wpS_region
  simp [wpOpsS, go_sem, Exit.thenS, Array.replicate]
  refine wpS_cond (t := true) (by simp [Act.eval]) ?_
  simp only [if_true]
  apply wpS_region
  have hb2 := fun (o1 o2 : Obj) => below_alloc (below_alloc (Below.refl w.heap.size w) o1) o2
  have hc2 : ∀ o1 o2, ((w.alloc o1).alloc o2).cell? ⟨g, 0, none⟩ = some (.slice A l c) := fun o1 o2 => by rw [(hb2 o1 o2).cell hg]; exact hc
  have hz2 : ∀ o1 o2, ((w.alloc o1).alloc o2).frozen? ⟨g, 0, none⟩ = false := fun o1 o2 => by rw [(hb2 o1 o2).frozen hg]; exact hz
  simp [wpOpsS, go_sem, bodyPostS, results, Tryz.results66, hc2, hz2, bs, whatL]

set_option maxRecDepth 20000 in
set_option maxHeartbeats 1600000 in
theorem catch_idle (g : Nat) (w : World) :
    CallsD Tryz.prog 66 #[.pointer (some ⟨g, 0, none⟩)] .returning w fun e u' w' => e = .returned (.tuple #[]) ∧ u' = .returning ∧ w' = w.alloc (.cells #[.int .i64 0] 109) := by
  have ha := asNil
  refine callsD_of_wpS Tryz.func66 rfl fun c₀ cs hu => ?_
  apply wpS_seq
  apply wpS_region
  simp [wpOpsS, go_sem, recoverD, hu, Tryz.ntmps66, Exit.thenS, ha]
  apply wpS_seq
  apply wpS_region
  simp [wpOpsS, go_sem, Exit.thenS, Array.replicate]
  refine wpS_cond (t := false) (by simp [Act.eval]) ?_
  simp only [Bool.false_eq_true, if_false]
  refine wpS_of_wp (wp_skip ?_)
  cases c₀
  simp_all [bodyPostS, results, Tryz.results66]
end Go.Proofs.YtgjllminidlolaaGreatDoor
