/- Texts of mine in one: EWalkF EWalkG EWalkD EWalkH EWalkI EWalkJ EWalkL. -/
import Derived.Test.YtgjllminidlolaaGreatDoorVAK
import Derived.Defers
import Derived.Recover
import Derived.Test.YtgjllminidlolaaGreatDoorVAD
import Derived.BigQuiet
import Derived.Deep.RegionHeld3
import Derived.Laws.Concat
import Derived.Test.YtgjllminidlolaaGreatDoorVAA
import Derived.Laws.BytesArg
import Derived.Deep.RegionWith
/- Contracts: parse of a known line. -/
set_option linter.unusedVariables false
namespace Go.Proofs.YtgjllminidlolaaGreatDoor
open Go.RowKit

/-- A line is a known one. -/
def ParseYes (n : Int) (k : Nat) (ns : List Int) (w : World) (e : Ending) (w' : World) : Prop :=
  ∃ v, e = .returned (.tuple #[.agg #[.int .i64 n, .func (.func k) #[] #[]], v]) ∧ OwnE 1 encI 3 w.heap.size w' v ns ∧ Below w.heap.size w w'
/-- The two cells of the result. -/
def ResAt (r : Nat) (a b : Value) (W : World) : Prop := W.cell? ⟨r, 0, none⟩ = some a ∧ W.cell? ⟨r, 1, none⟩ = some b ∧ W.frozen? ⟨r, 0, none⟩ = false ∧ W.frozen? ⟨r, 1, none⟩ = false ∧ r < W.heap.size
theorem ResAt.below {r : Nat} {a b : Value} {W W' : World} (h : ResAt r a b W) (hb : Below W.heap.size W W') : ResAt r a b W' :=
  ⟨by rw [hb.cell h.2.2.2.2]; exact h.1, by rw [hb.cell h.2.2.2.2]; exact h.2.1, by rw [hb.frozen h.2.2.2.2]; exact h.2.2.1, by rw [hb.frozen h.2.2.2.2]; exact h.2.2.2.1, Nat.lt_of_lt_of_le h.2.2.2.2 hb.size⟩
theorem resAt_new (w : World) (a b : Value) (T : TypeId) : ResAt w.heap.size a b (w.alloc (.cells #[a, b] T)) :=
  ⟨by simp, by simp, by simp, by simp, by show _ < (w.heap.push _).size; rw [Array.size_push]; omega⟩

set_option maxRecDepth 20000 in
set_option maxHeartbeats 6400000 in
theorem parse_yes (s : ByteArray) (wd : List UInt8) (ws : List (List UInt8)) (nw : Int) (k : Nat) (w : World) (hm : Env w) (hs : s.size ≤ 1000) (hc : cutL 32 s.data.toList = wd :: ws) (hn : cmdOf (bs wd) = some (nw, k)) (hf : Fits nw ws.length) :
    Calls Tryz.prog 67 #[.string s] w (ParseYes nw k (ws.map numL) w) := by
  have HM := Lib.hid hm
  have HN := Lib.hid hn
  have HC := Lib.hid hc
  have HB0 := Lib.hid (below_alloc (Below.refl w.heap.size w) (.cells #[.int .i64 0, .nilFunc] 113))
  have HR0 := Lib.hid (resAt_new w (.int .i64 0) .nilFunc 113)
  have HF := Lib.hid hf
  clear hm hn hc hf
  go_enter Tryz.func67, Tryz.ntmps67
  go_wp2_with fail
  refine (split_any 32 s _ (HM.out.below HB0.out HM.out.1) hs).mono ?_
  rintro e w2 ⟨g, n, hn, rfl, hsl, hb2, -, hg, hn1⟩
  rw [HC.out] at hn hsl
  obtain ⟨b, off, x, hA, hbl, hx, -, g0⟩ := atS hsl (Below.refl _ _) (show 0 < n by rw [hn]; simp)
  injection hA with hA
  injection hA with hA1 hA2
  subst hA1 hA2
  simp only [List.map_cons, List.getElem?_cons_zero, Option.some.injEq] at hx
  subst hx
  rw [Nat.add_zero] at g0
  obtain ⟨m, rfl⟩ : ∃ m : Nat, n = m + 1 := ⟨n - 1, by rw [hn]; simp⟩
  have hmw : m = ws.length := by simpa using hn
  have HB2 := Lib.hid (below_trans HB0.out hb2)
  have HR2 := Lib.hid (HR0.out.below hb2)
  have HS2 := Lib.hid hsl
  have HMW := Lib.hid hmw
  rw [← hmw] at HF
  clear hb2 hsl hn hbl HB0 HR0 hmw
  go_wp2_with fail
  refine (commandOf_any (bs wd) w2).mono ?_
  rintro e w3 ⟨hb3, he⟩
  rw [HN.out] at he
  subst he
  have HB3 := Lib.hid (below_trans HB2.out hb3)
  have HR3 := Lib.hid (HR2.out.below hb3)
  have HS3 := Lib.hid (HS2.out.below hb3)
  clear hb3 HB2 HR2 HS2 g0 hg
  unfold cmdV
  have HB4 := Lib.hid (below_alloc HB3.out (.cells #[.int .i64 nw, .func (.func k) #[] #[]] 113))
  have HR4 := Lib.hid (HR3.out.below (below_alloc (Below.refl _ _) (.cells #[.int .i64 nw, .func (.func k) #[] #[]] 113)))
  have HS4 := Lib.hid (HS3.out.alloc (.cells #[.int .i64 nw, .func (.func k) #[] #[]] 113))
  have HQ4 := Lib.hid (resAt_new w3 (.int .i64 nw) (.func (.func k) #[] #[]) 113)
  have HR3L := Lib.hid HR3.out.2.2.2.2
  clear HB3 HR3 HS3
  have e1 : ((m + 1 : Nat) : Int) - 1 = (m : Int) := by omega
  rcases HF.out with hf | ⟨hneg, hm0, hm3⟩
  · have fm : ((m : Int) == nw) = true := by simp [hf]
    go_wp2_with fail
    all_goals
      go_loopw [9, 56, 11] (fun s i _ wr => ∃ j : Nat, j ≤ m ∧ i = .int .i64 j ∧ OwnE 1 encI 3 (w3.heap.size + 1) wr s ((ws.take j).map numL) ∧ Below (w3.alloc (.cells #[.int .i64 nw, .func (.func k) #[] #[]] 113)).heap.size (w3.alloc (.cells #[.int .i64 nw, .func (.func k) #[] #[]] 113)) wr) (fun _ i _ _ => m - (intOf i).toNat)
      case atStart => exact ⟨0, by omega, rfl, own_new' _ _ _ (by show _ ≤ (w3.heap.push _).size; rw [Array.size_push]; omega) encI_len [] #[] rfl (by simp) rfl (by show _ = (w3.heap.push _).size; rw [Array.size_push]), below_alloc (Below.refl _ _) _⟩
      case round =>
        obtain ⟨j, hj, rfl, hown, hbr⟩ := hrel
        have HO := Lib.hid hown
        have HB := Lib.hid hbr
        have hszr : w3.heap.size + 1 ≤ wr.heap.size := by
          have := hbr.size
          rw [show (w3.alloc (.cells #[.int .i64 nw, .func (.func k) #[] #[]] 113)).heap.size = w3.heap.size + 1 from by show (w3.heap.push _).size = _; rw [Array.size_push]] at this
          exact this
        clear hown hbr
        by_cases hjm : j < m
        rotate_left
        · obtain rfl : j = m := by omega
          have e : ws.take j = ws := List.take_of_length_le (by rw [HMW.out]; omega)
          rw [e] at HO
          obtain ⟨q1, q2, q3, q4, q5⟩ := HQ4.out.below HB.out
          obtain ⟨r1, r2, r3, r4, r5⟩ := HR4.out.below HB.out
          have hw3 : w.heap.size < w3.heap.size := HR3L.out
          have HFB := Lib.hid ((((HB4.out.trans (HB.out.mono HB4.out.size))).setCell (p := ⟨w.heap.size, 0, none⟩) (Nat.le_refl _) (.int .i64 nw)).setCell (p := ⟨w.heap.size, 1, none⟩) (Nat.le_refl _) (.func (.func k) #[] #[]))
          have HFO := Lib.hid (((HO.out.apart (grown_setCell wr ⟨w.heap.size, 0, none⟩ (.int .i64 nw)) (noBad_ne (bad := fun i => i = w.heap.size) (fun i hi hb => by have := (HO.out.lt i hi).1; omega) rfl)).apart (grown_setCell _ ⟨w.heap.size, 1, none⟩ (.func (.func k) #[] #[])) (noBad_ne (bad := fun i => i = w.heap.size) (fun i hi hb => by have := (HO.out.lt i hi).1; omega) rfl)).base_le (base' := w.heap.size) (by omega))
          clear HO HB e
          generalize ws.map numL = ns at *
          go_wp2_with fail
          refine bodyPost_ret (v := .tuple #[.agg #[.int .i64 nw, .func (.func k) #[] #[]], _]) (by rw [results_cell_tmp rfl]; go_simp; rfl) rfl ?_
          exact ⟨_, rfl, HFO.out, HFB.out⟩
        · try (exfalso; omega)
          all_goals
            obtain ⟨b, off, x, hA, hbl, hx, -, g1⟩ := atS HS4.out HB.out (show 1 + j < m + 1 by omega)
            injection hA with hA
            injection hA with hA1 hA2
            subst hA1 hA2
            rw [Nat.zero_add] at g1
            obtain ⟨wj, hwj⟩ : ∃ wj, ws[j]? = some wj := ⟨_, List.getElem?_eq_getElem (by rw [← HMW.out]; exact hjm)⟩
            obtain rfl : x = bs wj := by
              rw [Nat.add_comm, List.map_cons, List.getElem?_cons_succ, List.getElem?_map, hwj] at hx
              simpa using hx.symm
            have HN2 := Lib.hid (show (ws.take (j + 1)).map numL = (ws.take j).map numL ++ [numL wj] by rw [take_next hwj, List.map_append]; rfl)
            have HDL := Lib.hid (show ((ws.take j).map numL).length = j by rw [List.length_map, List.length_take, ← HMW.out]; omega)
            clear hx hwj
            generalize (ws.take j).map numL = rs at *
            go_wp2_with fail
            refine (numberOf_any (bs wj) _).mono ?_
            rintro e w5 ⟨rfl, hb5⟩
            have HO2 := Lib.hid (HO.out.below hb5 (Nat.le_refl _))
            have HB5 := Lib.hid (HB.out.trans (hb5.mono HB.out.size))
            have hsz5 := Nat.le_trans hszr hb5.size
            rw [bs_data]
            clear hb5 HO HB
            go_wp2_with (at_builtin; refine wpList_push 1 8 3 encI encI_len encI_one (by omega) (numL wj) _ _ rfl rfl _ _ _ rfl Tryz.underlying29 info_intN rfl (w3.heap.size + 1) _ _ rfl rfl rfl HO2.out (by rw [HDL.out]; omega) (by rw [HDL.out]; unfold maxLen; omega) hsz5 ?_; intro v' w' hown' hg'; have HO' := Lib.hid hown'; have HB' := Lib.hid (HB5.out.grown hg' HB5.out.size (fun i hi => by have := (HO2.out.lt i hi).1; show (w3.heap.push _).size ≤ i; rw [Array.size_push]; omega)); clear hown' hg')
            go_roundw
            case rel => exact ⟨j + 1, by omega, by go_num, by rw [HN2.out]; exact HO'.out, HB'.out⟩
            case measure => simp [intOf]; omega
  · have i0 : (0 : Int) < (m : Int) := by omega
    have fm : ((m : Int) == nw) = false := by simp only [beq_eq_false_iff_ne]; omega
    have f3 : ((m : Int) % 3 == 0) = true := by
      have : (m : Int) % 3 = 0 := by omega
      simp only [beq_iff_eq]
      exact this
    go_wp2_with fail
    all_goals
      go_loopw [9, 56, 11] (fun s i _ wr => ∃ j : Nat, j ≤ m ∧ i = .int .i64 j ∧ OwnE 1 encI 3 (w3.heap.size + 1) wr s ((ws.take j).map numL) ∧ Below (w3.alloc (.cells #[.int .i64 nw, .func (.func k) #[] #[]] 113)).heap.size (w3.alloc (.cells #[.int .i64 nw, .func (.func k) #[] #[]] 113)) wr) (fun _ i _ _ => m - (intOf i).toNat)
      case atStart => exact ⟨0, by omega, rfl, own_new' _ _ _ (by show _ ≤ (w3.heap.push _).size; rw [Array.size_push]; omega) encI_len [] #[] rfl (by simp) rfl (by show _ = (w3.heap.push _).size; rw [Array.size_push]), below_alloc (Below.refl _ _) _⟩
      case round =>
        obtain ⟨j, hj, rfl, hown, hbr⟩ := hrel
        have HO := Lib.hid hown
        have HB := Lib.hid hbr
        have hszr : w3.heap.size + 1 ≤ wr.heap.size := by
          have := hbr.size
          rw [show (w3.alloc (.cells #[.int .i64 nw, .func (.func k) #[] #[]] 113)).heap.size = w3.heap.size + 1 from by show (w3.heap.push _).size = _; rw [Array.size_push]] at this
          exact this
        clear hown hbr
        by_cases hjm : j < m
        rotate_left
        · obtain rfl : j = m := by omega
          have e : ws.take j = ws := List.take_of_length_le (by rw [HMW.out]; omega)
          rw [e] at HO
          obtain ⟨q1, q2, q3, q4, q5⟩ := HQ4.out.below HB.out
          obtain ⟨r1, r2, r3, r4, r5⟩ := HR4.out.below HB.out
          have hw3 : w.heap.size < w3.heap.size := HR3L.out
          have HFB := Lib.hid ((((HB4.out.trans (HB.out.mono HB4.out.size))).setCell (p := ⟨w.heap.size, 0, none⟩) (Nat.le_refl _) (.int .i64 nw)).setCell (p := ⟨w.heap.size, 1, none⟩) (Nat.le_refl _) (.func (.func k) #[] #[]))
          have HFO := Lib.hid (((HO.out.apart (grown_setCell wr ⟨w.heap.size, 0, none⟩ (.int .i64 nw)) (noBad_ne (bad := fun i => i = w.heap.size) (fun i hi hb => by have := (HO.out.lt i hi).1; omega) rfl)).apart (grown_setCell _ ⟨w.heap.size, 1, none⟩ (.func (.func k) #[] #[])) (noBad_ne (bad := fun i => i = w.heap.size) (fun i hi hb => by have := (HO.out.lt i hi).1; omega) rfl)).base_le (base' := w.heap.size) (by omega))
          clear HO HB e
          generalize ws.map numL = ns at *
          go_wp2_with fail
          refine bodyPost_ret (v := .tuple #[.agg #[.int .i64 nw, .func (.func k) #[] #[]], _]) (by rw [results_cell_tmp rfl]; go_simp; rfl) rfl ?_
          exact ⟨_, rfl, HFO.out, HFB.out⟩
        · try (exfalso; omega)
          all_goals
            obtain ⟨b, off, x, hA, hbl, hx, -, g1⟩ := atS HS4.out HB.out (show 1 + j < m + 1 by omega)
            injection hA with hA
            injection hA with hA1 hA2
            subst hA1 hA2
            rw [Nat.zero_add] at g1
            obtain ⟨wj, hwj⟩ : ∃ wj, ws[j]? = some wj := ⟨_, List.getElem?_eq_getElem (by rw [← HMW.out]; exact hjm)⟩
            obtain rfl : x = bs wj := by
              rw [Nat.add_comm, List.map_cons, List.getElem?_cons_succ, List.getElem?_map, hwj] at hx
              simpa using hx.symm
            have HN2 := Lib.hid (show (ws.take (j + 1)).map numL = (ws.take j).map numL ++ [numL wj] by rw [take_next hwj, List.map_append]; rfl)
            have HDL := Lib.hid (show ((ws.take j).map numL).length = j by rw [List.length_map, List.length_take, ← HMW.out]; omega)
            clear hx hwj
            generalize (ws.take j).map numL = rs at *
            go_wp2_with fail
            refine (numberOf_any (bs wj) _).mono ?_
            rintro e w5 ⟨rfl, hb5⟩
            have HO2 := Lib.hid (HO.out.below hb5 (Nat.le_refl _))
            have HB5 := Lib.hid (HB.out.trans (hb5.mono HB.out.size))
            have hsz5 := Nat.le_trans hszr hb5.size
            rw [bs_data]
            clear hb5 HO HB
            go_wp2_with (at_builtin; refine wpList_push 1 8 3 encI encI_len encI_one (by omega) (numL wj) _ _ rfl rfl _ _ _ rfl Tryz.underlying29 info_intN rfl (w3.heap.size + 1) _ _ rfl rfl rfl HO2.out (by rw [HDL.out]; omega) (by rw [HDL.out]; unfold maxLen; omega) hsz5 ?_; intro v' w' hown' hg'; have HO' := Lib.hid hown'; have HB' := Lib.hid (HB5.out.grown hg' HB5.out.size (fun i hi => by have := (HO2.out.lt i hi).1; show (w3.heap.push _).size ≤ i; rw [Array.size_push]; omega)); clear hown' hg')
            go_roundw
            case rel => exact ⟨j + 1, by omega, by go_num, by rw [HN2.out]; exact HO'.out, HB'.out⟩
            case measure => simp [intOf]; omega
end Go.Proofs.YtgjllminidlolaaGreatDoor
/- Contracts: the deferred function of obey. -/
set_option linter.unusedVariables false
namespace Go.Proofs.YtgjllminidlolaaGreatDoor
open Go.RowKit

theorem asBad (v : Value) (w : World) : (Instr.typeAssert (.iface 109 v) 20 109 true).run Tryz.prog w = .ok (.tuple #[v, .bool true]) w := by
  simp [Instr.typeAssert, run_underlying Tryz.underlying109, Result.andThen]
theorem asNil (w : World) : (Instr.typeAssert .nilIface 20 109 true).run Tryz.prog w = .ok (.tuple #[.agg #[.int .i64 0], .bool false]) w := by
  simp [Instr.typeAssert, run_underlying Tryz.underlying109, Tryz.zeroValue109, Result.andThen]
set_option maxRecDepth 20000 in
set_option maxHeartbeats 1600000 in
theorem catch_what (g : Nat) (A : Option Addr) (l c : Nat) (n : Int) (older : List PanicEntry) (w : World) (hc : w.cell? ⟨g, 0, none⟩ = some (.slice A l c)) (hz : w.frozen? ⟨g, 0, none⟩ = false) (hg : g < w.heap.size) :
    CallsD Tryz.prog 66 #[.pointer (some ⟨g, 0, none⟩)] (.panicking ({ v := .iface 109 (.agg #[.int .i64 n]), recovered := false } :: older)) w fun e u' w' =>
      e = .returned (.tuple #[]) ∧ u' = .panicking ({ v := .iface 109 (.agg #[.int .i64 n]), recovered := true } :: older) ∧
        w' = ((w.alloc (.cells #[.int .i64 n] 109)).alloc (.cells #[.string (bs whatL)] 9)).setCell ⟨g, 0, none⟩ (.slice (some ⟨w.heap.size + 1, 0, none⟩) 1 1) := by
  have ha := asBad
  refine callsD_of_wpS Tryz.func66 rfl fun c₀ cs hu => ?_
  apply wpS_seq
  apply wpS_region
  simp [wpOpsS, go_sem, recoverD, hu, Tryz.ntmps66, Exit.thenS, ha]
  apply wpS_seq
  apply wpS_region
  simp [wpOpsS, go_sem, Exit.thenS, Array.replicate]
  refine wpS_cond (t := true) (by simp [Act.eval]) ?_
  simp only [if_true]
  apply wpS_region
  have hb2 := fun (o1 o2 : Obj) => below_alloc (below_alloc (Below.refl w.heap.size w) o1) o2
  have hc2 : ∀ o1 o2, ((w.alloc o1).alloc o2).cell? ⟨g, 0, none⟩ = some (.slice A l c) := fun o1 o2 => by rw [(hb2 o1 o2).cell hg]; exact hc
  have hz2 : ∀ o1 o2, ((w.alloc o1).alloc o2).frozen? ⟨g, 0, none⟩ = false := fun o1 o2 => by rw [(hb2 o1 o2).frozen hg]; exact hz
  simp [wpOpsS, go_sem, bodyPostS, results, Tryz.results66, hc2, hz2, bs, whatL]

set_option maxRecDepth 20000 in
set_option maxHeartbeats 1600000 in
theorem catch_idle (g : Nat) (w : World) :
    CallsD Tryz.prog 66 #[.pointer (some ⟨g, 0, none⟩)] .returning w fun e u' w' => e = .returned (.tuple #[]) ∧ u' = .returning ∧ w' = w.alloc (.cells #[.int .i64 0] 109) := by
  have ha := asNil
  refine callsD_of_wpS Tryz.func66 rfl fun c₀ cs hu => ?_
  apply wpS_seq
  apply wpS_region
  simp [wpOpsS, go_sem, recoverD, hu, Tryz.ntmps66, Exit.thenS, ha]
  apply wpS_seq
  apply wpS_region
  simp [wpOpsS, go_sem, Exit.thenS, Array.replicate]
  refine wpS_cond (t := false) (by simp [Act.eval]) ?_
  simp only [Bool.false_eq_true, if_false]
  refine wpS_of_wp (wp_skip ?_)
  cases c₀
  simp_all [bodyPostS, results, Tryz.results66]
end Go.Proofs.YtgjllminidlolaaGreatDoor
/- Contracts: the commands of a script on seats. -/
set_option linter.unusedVariables false
namespace Go.Proofs.YtgjllminidlolaaGreatDoor
open Go.RowKit

/-- A command has run. -/
def Ran (w0 : World) (R : Nat) (s' : LSt) (out : List ByteArray) (ok : Bool) (av : Nat → Prop) (W : World) (e : Ending) (W' : World) : Prop :=
  ∃ v, e = .returned (.tuple #[v, .bool ok]) ∧ OwnE 1 encS 9 W.heap.size W' v out ∧ W.grownBy W' (some R) ∧ St w0 R s' av W'
theorem grown_of_below {W W' : World} (h : Below W.heap.size W W') (row : Option Nat) : W.grownBy W' row := ⟨h.os, h.tape, h.output, h.size, fun j hj _ => h.block j hj⟩
/-- What a field of the office holds. -/
theorem St.listAt {w0 W : World} {R : Nat} {s : LSt} {av : Nat → Prop} (h : St w0 R s av W) :
    ∃ A c, W.cell? ⟨R, 2, none⟩ = some (.slice A s.list.length c) ∧ W.frozen? ⟨R, 2, none⟩ = false ∧ SlE 3 encB W A s.list.length s.list ∧ s.list.length ≤ c ∧ R < W.heap.size := by
  obtain ⟨h1, h2, h3, h4, vr, vc, vb, ⟨o1, o2, o3, o4⟩, hv, hn, hb1, hb2⟩ := h
  obtain ⟨A, c, rfl, hs, hc⟩ := hb1.slc encB_len rfl
  exact ⟨A, c, o3, o4 2, hs, hc, h2⟩
theorem noBad_new {base : Nat} {v : Value} {R : Nat} {av : Nat → Prop} (h : ∀ j, v.ownBlock = some j → base ≤ j) (hR : R < base) (ha : ∀ j, base ≤ j → ¬ av j) : NoBad (fun j => j = R ∨ av j) v := fun j hj hb => by
  have := h j hj
  rcases hb with rfl | hb
  · omega
  · exact ha j this hb

theorem cell_below {W W' : World} (hb : Below W.heap.size W W') {p : Addr} {v : Value} (h : W.cell? p = some v) : W'.cell? p = some v := by
  have hp : p.block < W.heap.size := by
    unfold World.cell? at h
    rcases Nat.lt_or_ge p.block W.heap.size with h1 | h1
    · exact h1
    · rw [Array.getElem?_eq_none h1] at h
      simp at h
  rw [hb.cell hp]
  exact h
theorem cells4_below {W W' : World} (hb : Below W.heap.size W W') {p q r s : Addr} {a b c d : Value} (h : W.cell? p = some a ∧ W.cell? q = some b ∧ W.cell? r = some c ∧ W.cell? s = some d) :
    W'.cell? p = some a ∧ W'.cell? q = some b ∧ W'.cell? r = some c ∧ W'.cell? s = some d := ⟨cell_below hb h.1, cell_below hb h.2.1, cell_below hb h.2.2.1, cell_below hb h.2.2.2⟩
set_option maxRecDepth 20000 in
set_option maxHeartbeats 3200000 in
theorem book_any (w0 : World) (R : Nat) (s : LSt) (av : Nat → Prop) (A : Option Addr) (c : Nat) (x y : Int) (z : Bool) (s' : LSt) (b : Bool) (W : World) (hs : St w0 R s av W) (ha : ∀ j, W.heap.size ≤ j → ¬ av j)
    (hN : SlE 1 encI W A 2 [x, y]) (hl : s.list.length ≤ 1000)
    (hb : (b = true ∧ BJoinOk 5 s.list [⟨x, y, z⟩] ∧ s' = { s with list := s.list ++ [⟨x, y, z⟩] }) ∨ (b = false ∧ ¬ BJoinOk 5 s.list [⟨x, y, z⟩] ∧ s' = s)) :
    Calls Tryz.prog 184 #[.pointer (some ⟨R, 0, none⟩), .slice A 2 c, .bool z] W (Ran w0 R s' [bs okL] b av W) := by
  obtain ⟨ys, hy⟩ : ∃ ys, (b = true ∧ BJoinOk 5 s.list [⟨x, y, z⟩] ∧ ys = s.list ++ [⟨x, y, z⟩]) ∨ (b = false ∧ ¬ BJoinOk 5 s.list [⟨x, y, z⟩] ∧ ys = []) := by
    rcases hb with ⟨h1, h2, h3⟩ | ⟨h1, h2, h3⟩
    · exact ⟨_, .inl ⟨h1, h2, rfl⟩⟩
    · exact ⟨_, .inr ⟨h1, h2, rfl⟩⟩
  have HY := Lib.hid hy
  clear hy
  obtain ⟨Ab, cb, hc, hf, hsl, hcap, hR⟩ := hs.listAt
  obtain ⟨bb, off, p, rfl, hbl, hp, -, g0⟩ := at1 hN (Below.refl _ _) (show 0 < 2 by omega)
  obtain ⟨bb', off', p', hA, hbl', hp', -, g1⟩ := at1 hN (Below.refl _ _) (show 1 < 2 by omega)
  simp only [Option.some.injEq, Addr.mk.injEq, and_true] at hA
  obtain ⟨rfl, rfl⟩ := hA
  simp only [List.getElem?_cons_zero, List.getElem?_cons_succ, Option.some.injEq] at hp hp'
  subst hp hp'
  rw [Nat.add_zero] at g0
  have HS := Lib.hid hs
  have HA := Lib.hid ha
  have HSL := Lib.hid hsl
  have HB := Lib.hid hb
  have HB0 := Lib.hid (below_drew (below_alloc (Below.refl W.heap.size W) (.cells #[.int .i64 x, .int .i64 y, .bool z] 34)))
  clear hN hs ha hsl hb hbl' hcap
  generalize hlen : s.list.length = len at *
  have HLN := Lib.hid hlen
  clear hlen
  go_enter Tryz.func184, Tryz.ntmps184
  go_wp2_with fail
  go_region
  go_wp2_with fail
  have hR0 : (W.alloc (.cells #[.int .i64 x, .int .i64 y, .bool z] 34)).drew.cell? ⟨R, 2, none⟩ = some (.slice Ab len cb) := by rw [HB0.out.cell (by exact hR)]; exact hc
  have hR1 : (W.alloc (.cells #[.int .i64 x, .int .i64 y, .bool z] 34)).drew.cell? ⟨W.heap.size, 0, none⟩ = some (.int .i64 x) := by simp
  have hR2 : (W.alloc (.cells #[.int .i64 x, .int .i64 y, .bool z] 34)).drew.cell? ⟨W.heap.size, 1, none⟩ = some (.int .i64 y) := by simp
  have hR3 : (W.alloc (.cells #[.int .i64 x, .int .i64 y, .bool z] 34)).drew.cell? ⟨W.heap.size, 2, none⟩ = some (.bool z) := by simp
  have hsz : W.heap.size ≤ (W.alloc (.cells #[.int .i64 x, .int .i64 y, .bool z] 34)).drew.heap.size := HB0.out.size
  generalize (W.alloc (.cells #[.int .i64 x, .int .i64 y, .bool z] 34)).drew = WA at *
  have HCS := Lib.hid (show WA.cell? ⟨R, 2, none⟩ = some (.slice Ab len cb) ∧ WA.cell? ⟨W.heap.size, 0, none⟩ = some (.int .i64 x) ∧ WA.cell? ⟨W.heap.size, 1, none⟩ = some (.int .i64 y) ∧ WA.cell? ⟨W.heap.size, 2, none⟩ = some (.bool z) from ⟨hR0, hR1, hR2, hR3⟩)
  clear hc hf g0 g1
  go_region_held3 (fun w' => w'.cell? ⟨R, 2, none⟩ = some (.slice Ab len cb) ∧ w'.cell? ⟨W.heap.size, 0, none⟩ = some (.int .i64 x) ∧ w'.cell? ⟨W.heap.size, 1, none⟩ = some (.int .i64 y) ∧ w'.cell? ⟨W.heap.size, 2, none⟩ = some (.bool z))
    (first | exact HCS.out | exact CZ2.out | fail)
    (first
      | (go_at_call 212; (with_reducible_and_instances refine (implSeatsBook_any Ab 5 len cb s.list x y z ys b _ ((HSL.out.below HB0.out).drew) (by omega) HY.out).mono ?_); rintro e w2 ⟨v, rfl, hown, hb2⟩; have HO2 := Lib.hid hown; have HB2 := Lib.hid ((below_drew HB0.out).trans (hb2.mono hsz)); have CZ2 := Lib.hid (cells4_below hb2 (show WA.drew.cell? ⟨R, 2, none⟩ = some (.slice Ab len cb) ∧ WA.drew.cell? ⟨W.heap.size, 0, none⟩ = some (.int .i64 x) ∧ WA.drew.cell? ⟨W.heap.size, 1, none⟩ = some (.int .i64 y) ∧ WA.drew.cell? ⟨W.heap.size, 2, none⟩ = some (.bool z) from HCS.out)); have SS2 := Lib.hid ((HS.out.below (below_drew HB0.out)).below hb2); clear hown hb2)
      )
  clear hR0 hR1 hR2 hR3 HCS
  obtain ⟨A9, c9, hc9, hf9, -, -, hR9⟩ := SS2.out.listAt
  have hszd := HB2.out.size
  rcases HB.out with ⟨rfl, hj, rfl⟩ | ⟨rfl, hj, rfl⟩
  · obtain rfl : ys = s.list ++ [⟨x, y, z⟩] := by
      rcases HY.out with ⟨_, _, h⟩ | ⟨h, _⟩
      · exact h
      · cases h
    obtain ⟨m, hm⟩ : ∃ m, (s.list ++ ([⟨x, y, z⟩] : List B3)).length = m := ⟨_, rfl⟩
    obtain ⟨Ay, cy, rfl, -, -⟩ := HO2.out.slc encB_len hm
    have HJ := Lib.hid hj
    clear hj hm
    go_wp2_with fail
    refine (done_any true _).mono ?_
    rintro e w3 ⟨v3, rfl, hown3, hb3⟩
    have hw2 : (w2.setCell ⟨R, 2, none⟩ (.slice Ay m cy)).heap.size = w2.heap.size := by simp [World.setCell]
    have HE := Lib.hid (show OwnE 1 encS 9 W.heap.size w3 v3 [bs okL] ∧ W.grownBy w3 (some R) ∧ St w0 R { s with list := s.list ++ [⟨x, y, z⟩] } av w3 from
      ⟨hown3.base_le (by rw [hw2]; exact hszd), grown_trans (grown_trans (grown_of_below HB2.out _) (grown_setCell w2 ⟨R, 2, none⟩ _)) (grown_of_below hb3 _),
       (SS2.out.putB (HO2.out.base_le (Nat.le_trans HS.out.1 (Nat.le_trans (Nat.le_of_lt hR) hsz))) (noBad_new (fun j hj => (HO2.out.lt j hj).1) (Nat.lt_of_lt_of_le hR hsz) (fun j hj => HA.out j (Nat.le_trans hsz hj)))).below hb3⟩)
    clear hown3 hb3
    go_wp2_with fail
    go_ret2
    exact ⟨v3, rfl, HE.out⟩
  · have HJ := Lib.hid hj
    clear hj
    go_wp2_with fail
    refine (done_any false _).mono ?_
    rintro e w3 ⟨v3, rfl, hown3, hb3⟩
    have HE := Lib.hid (show OwnE 1 encS 9 W.heap.size w3 v3 [bs okL] ∧ W.grownBy w3 (some R) ∧ St w0 R s' av w3 from
      ⟨hown3.base_le hszd, grown_trans (grown_of_below HB2.out _) (grown_of_below hb3 _), SS2.out.below hb3⟩)
    clear hown3 hb3
    go_wp2_with fail
    go_ret2
    exact ⟨v3, rfl, HE.out⟩
set_option maxRecDepth 20000 in
set_option maxHeartbeats 800000 in
theorem inside_any (w0 : World) (R : Nat) (s : LSt) (av : Nat → Prop) (A : Option Addr) (c : Nat) (x y : Int) (s' : LSt) (b : Bool) (W : World) (hs : St w0 R s av W) (ha : ∀ j, W.heap.size ≤ j → ¬ av j)
    (hN : SlE 1 encI W A 2 [x, y]) (hl : s.list.length ≤ 1000)
    (hb : (b = true ∧ BJoinOk 5 s.list [⟨x, y, true⟩] ∧ s' = { s with list := s.list ++ [⟨x, y, true⟩] }) ∨ (b = false ∧ ¬ BJoinOk 5 s.list [⟨x, y, true⟩] ∧ s' = s)) :
    Calls Tryz.prog 144 #[.pointer (some ⟨R, 0, none⟩), .slice A 2 c] W (Ran w0 R s' [bs okL] b av W) := by
  have HB := Lib.hid (book_any w0 R s av A c x y true s' b W hs ha hN hl hb)
  clear hs ha hN hb
  go_enter Tryz.func144, Tryz.ntmps144
  go_wp2_with fail
  refine HB.out.mono ?_
  rintro e w2 ⟨v, rfl, hr⟩
  have HR := Lib.hid hr
  clear hr
  go_wp2_with fail
  go_ret2
  exact ⟨v, rfl, HR.out⟩
set_option maxRecDepth 20000 in
set_option maxHeartbeats 800000 in
theorem outside_any (w0 : World) (R : Nat) (s : LSt) (av : Nat → Prop) (A : Option Addr) (c : Nat) (x y : Int) (s' : LSt) (b : Bool) (W : World) (hs : St w0 R s av W) (ha : ∀ j, W.heap.size ≤ j → ¬ av j)
    (hN : SlE 1 encI W A 2 [x, y]) (hl : s.list.length ≤ 1000)
    (hb : (b = true ∧ BJoinOk 5 s.list [⟨x, y, false⟩] ∧ s' = { s with list := s.list ++ [⟨x, y, false⟩] }) ∨ (b = false ∧ ¬ BJoinOk 5 s.list [⟨x, y, false⟩] ∧ s' = s)) :
    Calls Tryz.prog 145 #[.pointer (some ⟨R, 0, none⟩), .slice A 2 c] W (Ran w0 R s' [bs okL] b av W) := by
  have HB := Lib.hid (book_any w0 R s av A c x y false s' b W hs ha hN hl hb)
  clear hs ha hN hb
  go_enter Tryz.func145, Tryz.ntmps145
  go_wp2_with fail
  refine HB.out.mono ?_
  rintro e w2 ⟨v, rfl, hr⟩
  have HR := Lib.hid hr
  clear hr
  go_wp2_with fail
  go_ret2
  exact ⟨v, rfl, HR.out⟩
theorem joinTail_le (sep : List UInt8) (m : Nat) : ∀ (r : List (List UInt8)), (∀ l ∈ r, l.length ≤ m) → (Lib.joinTail sep r).length ≤ r.length * (sep.length + m)
  | [], _ => by simp [Lib.joinTail]
  | x :: r, h => by
    have ih := joinTail_le sep m r (fun l hl => h l (List.mem_cons_of_mem _ hl))
    have hx := h x (List.mem_cons_self ..)
    have e : Lib.joinTail sep (x :: r) = (sep ++ x) ++ Lib.joinTail sep r := by simp [Lib.joinTail]
    rw [e, List.length_append, List.length_append, List.length_cons, Nat.add_mul]
    omega
theorem join_le (sep : List UInt8) (m : Nat) (r : List (List UInt8)) (h : ∀ l ∈ r, l.length ≤ m) : (Lib.join r sep).length ≤ r.length * (sep.length + m) := by
  cases r with
  | nil => simp [Lib.join]
  | cons x r =>
    have h1 := joinTail_le sep m r (fun l hl => h l (List.mem_cons_of_mem _ hl))
    have hx := h x (List.mem_cons_self ..)
    rw [Lib.join_cons, List.length_append, List.length_cons, Nat.add_mul]
    omega
theorem spaced_le {ns : List Int} (h : ∀ x ∈ ns, 0 ≤ x ∧ x < 100) : (spacedL ns).length ≤ ns.length * 3 := by
  have := join_le [32] 2 (ns.map fun n => Lib.decDigits n.toNat) (fun l hl => by
    obtain ⟨x, hx, rfl⟩ := List.mem_map.1 hl
    exact decDigits_len 2 _ (by omega) (by have := h x hx; omega))
  rw [List.length_map] at this
  exact this
set_option maxRecDepth 20000 in
set_option maxHeartbeats 1600000 in
theorem seats_any (w0 : World) (R : Nat) (s : LSt) (av : Nat → Prop) (A : Option Addr) (n c : Nat) (ns : List Int) (b : Bool) (W : World) (hs : St w0 R s av W) (hl : s.list.length ≤ 1000)
    (hb : (b = true ∧ BookOk 5 s.list ∧ ns = plan s.list 5) ∨ (b = false ∧ ¬ BookOk 5 s.list ∧ ns = [])) :
    Calls Tryz.prog 146 #[.pointer (some ⟨R, 0, none⟩), .slice A n c] W (Ran w0 R s [bs (spacedL ns)] b av W) := by
  obtain ⟨Ab, cb, hc, hf, hsl, hcap, hR⟩ := hs.listAt
  have hns : ns.length ≤ 16 ∧ ∀ x ∈ ns, 0 ≤ x ∧ x < 100 := by
    rcases hb with ⟨_, hok, rfl⟩ | ⟨_, _, rfl⟩
    · refine ⟨?_, fun x hx => ?_⟩
      · rw [plan_len hok]
        exact hok.2.2.1
      · refine ⟨plan_nonneg (n := 5) hok x hx, ?_⟩
        obtain ⟨k, hk⟩ := List.getElem?_of_mem hx
        have hkl : k < s.list.length := by
          have := (List.getElem?_eq_some_iff.1 hk).1
          rw [plan_len hok] at this
          exact this
        have h1 := (plan_all (n := 5) hok).2 k _ x (List.getElem?_eq_getElem hkl) hk
        have h2 := (taken_bd s.list (s.list[k]).a (s.list[k]).c).2
        have h3 := hok.2.2.1
        omega
    · exact ⟨by simp, fun x hx => by cases hx⟩
  have HC : Hid (Calls Tryz.prog 16 #[.int .i64 5, .slice Ab s.list.length cb] W (RetOwnB 1 encI 3 ns b W)) := by
    rcases hb with ⟨rfl, hok, rfl⟩ | ⟨rfl, hno, rfl⟩
    · exact implSeatingMake_yes Ab 5 _ cb s.list W hsl hok
    · exact implSeatingMake_no Ab 5 _ cb s.list W hsl (by omega) hno
  have HS := Lib.hid hs
  have HNS := Lib.hid hns
  clear hs hb hsl hcap hns
  generalize s.list.length = len at *
  go_enter Tryz.func146, Tryz.ntmps146
  go_wp2_with fail
  refine HC.out.mono ?_
  rintro e w2 ⟨v, rfl, hown, hb2⟩
  obtain ⟨m, hm⟩ : ∃ m, ns.length = m := ⟨_, rfl⟩
  obtain ⟨A2, c2, rfl, hsl2, -⟩ := hown.slc encI_len hm
  have HB2 := Lib.hid hb2
  have HSL2 := Lib.hid hsl2
  have HM := Lib.hid hm
  clear hown hb2 hsl2 hm
  go_wp2_with fail
  refine (numbersText_any A2 m c2 ns w2 HSL2.out (by have := HNS.out.1; rw [HM.out] at this; omega) (fun x hx => itoa_small (HNS.out.2 x hx).1 (HNS.out.2 x hx).2 _) (by have h1 := spaced_le HNS.out.2; have h2 := HNS.out.1; omega)).mono ?_
  rintro e w3 ⟨rfl, hb3⟩
  have HB3 := Lib.hid (below_trans HB2.out hb3)
  have hsz3 := HB3.out.size
  clear hb3
  go_wp2_with fail
  go_ret2
  exact ⟨_, rfl, own_new w3 _ _ hsz3 encS_len [bs (spacedL ns)] _ rfl (by unfold maxLen; simp) rfl, (grown_of_below (below_alloc HB3.out _) _), HS.out.below (below_alloc HB3.out _)⟩
end Go.Proofs.YtgjllminidlolaaGreatDoor
/- Contracts: obey. -/
set_option linter.unusedVariables false
namespace Go.Proofs.YtgjllminidlolaaGreatDoor
open Go.RowKit

/-- A line has been obeyed. -/
def Obeyed (w0 : World) (R : Nat) (s' : LSt) (out : List ByteArray) (av : Nat → Prop) (W : World) (e : Ending) (W' : World) : Prop :=
  ∃ v, e = .returned v ∧ OwnE 1 encS 9 W.heap.size W' v out ∧ W.grownBy W' (some R) ∧ St w0 R s' av W'

set_option maxRecDepth 20000 in
set_option maxHeartbeats 1600000 in
theorem obey_what (w0 : World) (R : Nat) (s : LSt) (av : Nat → Prop) (l : ByteArray) (m : Nat) (w : World) (hs : St w0 R s av w) (ha : ∀ j, w.heap.size ≤ j → ¬ av j)
    (hp : ∀ W, Below w.heap.size w W → Calls Tryz.prog 67 #[.string l] W (ParseNo m W)) :
    Calls Tryz.prog 36 #[.pointer (some ⟨R, 0, none⟩), .string l] w (Obeyed w0 R s [bs whatL] av w) := by
  have HS := Lib.hid hs
  have HP := Lib.hid hp
  have HB0 := Lib.hid (below_alloc (Below.refl w.heap.size w) (.cells #[.slice none 0 0] 60))
  clear hs hp
  have hmf : ∀ (fn : Fn) (first cap : Array Value) (w : World), (Instr.makeFunc fn first cap).run Tryz.prog w = .ok (.func fn first cap) w := fun _ _ _ _ => rfl
  go_enter_defers Tryz.func36, Tryz.ntmps36
  go_wp2_with fail
  refine (HP.out _ HB0.out).mono ?_
  rintro e w2 ⟨rfl, hb2⟩
  have hgs : (w.alloc (.cells #[.slice none 0 0] 60)).heap.size = w.heap.size + 1 := by
    show (w.heap.push _).size = _
    rw [Array.size_push]
  have hsz2 := hb2.size
  have hg2 : w.heap.size < w2.heap.size := by omega
  have hc2 : w2.cell? ⟨w.heap.size, 0, none⟩ = some (.slice none 0 0) := by
    rw [hb2.cell (by show w.heap.size < _; omega)]
    simp
  have hz2 : w2.frozen? ⟨w.heap.size, 0, none⟩ = false := by
    rw [hb2.frozen (by show w.heap.size < _; omega)]
    simp
  have HB2 := Lib.hid (below_trans HB0.out hb2)
  clear hb2 HB0
  go_wp2_with fail
  have hO := own_new (enc := encS) (k := 1) (w2.alloc (.cells #[.int .i64 m] 109)) 9 (w2.heap.size + 1) (by show _ ≤ (w2.heap.push _).size; rw [Array.size_push]; omega) encS_len [bs whatL] #[.string (bs whatL)] rfl (by unfold maxLen; simp) rfl
  have hB := ((below_alloc (below_alloc HB2.out (.cells #[.int .i64 m] 109)) (.cells #[.string (bs whatL)] 9))).setCell (p := ⟨w.heap.size, 0, none⟩) (Nat.le_refl _) (.slice (some ⟨w2.heap.size + 1, 0, none⟩) 1 1)
  refine leaves_cons (f := 66) (args := #[.pointer (some ⟨w.heap.size, 0, none⟩)]) (by simp) (by simp [go_sem]) ?_
  refine (catch_what w.heap.size none 0 0 m [] w2 hc2 hz2 hg2).mono ?_
  rintro e u' w'' ⟨rfl, rfl, rfl⟩
  have hcc : (((w2.alloc (.cells #[.int .i64 m] 109)).alloc (.cells #[.string (bs whatL)] 9)).setCell ⟨w.heap.size, 0, none⟩ (.slice (some ⟨w2.heap.size + 1, 0, none⟩) 1 1)).cell? ⟨w.heap.size, 0, none⟩ = some (.slice (some ⟨w2.heap.size + 1, 0, none⟩) 1 1) :=
    World.cell?_setCell_same _ _ _ (u := .slice none 0 0) (by rw [(below_alloc (below_alloc (Below.refl w2.heap.size w2) _) _).cell hg2]; exact hc2)
  refine ⟨.slice (some ⟨w2.heap.size + 1, 0, none⟩) 1 1, ?_, _, rfl, ?_, grown_of_below hB _, HS.out.below hB⟩
  · simp [results, Tryz.results36, go_sem, hcc]
  · have hs1 : (w2.alloc (.cells #[.int .i64 m] 109)).heap.size = w2.heap.size + 1 := by
      show (w2.heap.push _).size = _
      rw [Array.size_push]
    rw [hs1] at hO
    exact (hO.apart (grown_setCell _ ⟨w.heap.size, 0, none⟩ _) (noBad_ne (bad := fun i => i = w.heap.size) (fun i hi hb => by have := (hO.lt i hi).1; omega) rfl)).base_le (by omega)
end Go.Proofs.YtgjllminidlolaaGreatDoor
/- Contracts: obey of a known line. -/
set_option linter.unusedVariables false
namespace Go.Proofs.YtgjllminidlolaaGreatDoor
open Go.RowKit

theorem grown_later {w W W' : World} {R g : Nat} (h : w.grownBy W (some R)) (k : W.grownBy W' (some g)) (hg : w.heap.size ≤ g) : w.grownBy W' (some R) :=
  ⟨k.os.trans h.os, k.tape.trans h.tape, k.output.trans h.output, Nat.le_trans h.size k.size, fun i hi hr => (k.block i (Nat.lt_of_lt_of_le hi h.size) (fun e => by injection e with e; omega)).trans (h.block i hi hr)⟩
theorem size_setCell (W : World) (a : Addr) (v : Value) : (W.setCell a v).heap.size = W.heap.size := by simp [World.setCell]
/-- The end of obey. -/
theorem obey_end {w0 w w4 WD : World} {R g : Nat} {s' : LSt} {av : Nat → Prop} {v5 : Value} {out' : List ByteArray} {tmps : Array Value} (hg : g = w.heap.size) (hw0 : w0.heap.size ≤ R) (hR : R < w.heap.size) (hG4 : w.grownBy w4 (some R)) (hS4 : St w0 R s' (fun j => av j ∨ j = g) w4)
    (hG5 : w4.grownBy WD (some g)) (hO : OwnE 1 encS 9 w.heap.size WD v5 out') (hc : ∀ o, (WD.alloc o).cell? ⟨g, 0, none⟩ = some v5)
    (hres : ∀ W, W.cell? ⟨g, 0, none⟩ = some v5 → (results Tryz.f36 tmps).run Tryz.prog W = .ok v5 W) (o : Obj) :
    ∃ v, (results Tryz.f36 tmps).run Tryz.prog (WD.alloc o) = .ok v (WD.alloc o) ∧ Obeyed w0 R s' out' av w (.returned v) (WD.alloc o) := by
  subst hg
  refine ⟨v5, hres _ (hc o), v5, rfl, hO.alloc o, grown_trans (grown_later hG4 hG5 (Nat.le_refl _)) (World.grownBy_alloc WD o _), ?_⟩
  have h1 := hS4.kept hG5 (fun i hi => by injection hi with hi; subst hi; exact ⟨.inr rfl, by omega⟩)
  exact (h1.below (below_alloc (Below.refl _ _) o)).fewer (fun j _ hj => .inl hj)

set_option maxRecDepth 20000 in
set_option maxHeartbeats 3200000 in
theorem obey_run (w0 : World) (R : Nat) (s s' : LSt) (av : Nat → Prop) (l : ByteArray) (nw : Int) (k : Nat) (ns : List Int) (out out' : List ByteArray) (ok : Bool) (w : World) (hs : St w0 R s av w) (ha : ∀ j, w.heap.size ≤ j → ¬ av j)
    (hp : ∀ W, Below w.heap.size w W → Calls Tryz.prog 67 #[.string l] W (ParseYes nw k ns W))
    (hk : ∀ (W : World) (av' : Nat → Prop) (A : Option Addr) (n c : Nat), n = ns.length → (∀ j, W.heap.size ≤ j → ¬ av' j) → St w0 R s av' W → SlE 1 encI W A n ns → Calls Tryz.prog k #[.pointer (some ⟨R, 0, none⟩), .slice A n c] W (Ran w0 R s' out ok av' W))
    (hcf : ∀ (args : Array Value) (W : World), (callFunc k args).run Tryz.prog W = .ok (.enter k args) W)
    (ho : (ok = true ∧ out' = out) ∨ (ok = false ∧ out' = [bs noL])) :
    Calls Tryz.prog 36 #[.pointer (some ⟨R, 0, none⟩), .string l] w (Obeyed w0 R s' out' av w) := by
  have HS := Lib.hid hs
  have HP := Lib.hid hp
  have HK := Lib.hid hk
  have HA := Lib.hid ha
  have HO := Lib.hid ho
  have HB0 := Lib.hid (below_alloc (Below.refl w.heap.size w) (.cells #[.slice none 0 0] 60))
  have HSV := Lib.hid (hs.fewer (av' := fun j => av j ∨ j = w.heap.size) (fun j hj hb => by rcases hb with hb | hb; exact hb; omega))
  clear hs hp hk ha ho
  have hmf : ∀ (fn : Fn) (first cap : Array Value) (w : World), (Instr.makeFunc fn first cap).run Tryz.prog w = .ok (.func fn first cap) w := fun _ _ _ _ => rfl
  go_enter_defers Tryz.func36, Tryz.ntmps36
  go_wp2_with fail
  refine (HP.out _ HB0.out).mono ?_
  rintro e w2 ⟨v, rfl, hown, hb2⟩
  obtain ⟨n, hn⟩ : ∃ n, ns.length = n := ⟨_, rfl⟩
  obtain ⟨A, c, rfl, hsl, -⟩ := hown.slc encI_len hn
  have hgs : (w.alloc (.cells #[.slice none 0 0] 60)).heap.size = w.heap.size + 1 := by
    show (w.heap.push _).size = _
    rw [Array.size_push]
  have hsz2 := hb2.size
  have hg2 : w.heap.size < w2.heap.size := by omega
  have hc2 : w2.cell? ⟨w.heap.size, 0, none⟩ = some (.slice none 0 0) := by
    rw [hb2.cell (by show w.heap.size < _; omega)]
    simp
  have hz2 : w2.frozen? ⟨w.heap.size, 0, none⟩ = false := by
    rw [hb2.frozen (by show w.heap.size < _; omega)]
    simp
  have HB2 := Lib.hid (below_trans HB0.out hb2)
  have HSL2 := Lib.hid hsl
  have HN := Lib.hid hn
  clear hb2 HB0 hown hsl hn
  go_wp2_with fail
  have hW3 : (w2.alloc (.cells #[.int .i64 nw, .func (.func k) #[] #[]] 113)).heap.size = w2.heap.size + 1 := by
    show (w2.heap.push _).size = _
    rw [Array.size_push]
  have hRw : R < w.heap.size := HS.out.2.1
  have hc3 : (w2.alloc (.cells #[.int .i64 nw, .func (.func k) #[] #[]] 113)).cell? ⟨w.heap.size, 0, none⟩ = some (.slice none 0 0) := by rw [World.cell?_alloc_lt _ _ _ hg2]; exact hc2
  have hz3 : (w2.alloc (.cells #[.int .i64 nw, .func (.func k) #[] #[]] 113)).frozen? ⟨w.heap.size, 0, none⟩ = false := by rw [(below_alloc (Below.refl w2.heap.size w2) _).frozen hg2]; exact hz2
  have HB3 := Lib.hid (below_alloc HB2.out (.cells #[.int .i64 nw, .func (.func k) #[] #[]] 113))
  have HSL3 := Lib.hid (HSL2.out.alloc (.cells #[.int .i64 nw, .func (.func k) #[] #[]] 113))
  generalize w2.alloc (.cells #[.int .i64 nw, .func (.func k) #[] #[]] 113) = W3 at *
  refine (HK.out W3 (fun j => av j ∨ j = w.heap.size) A n c HN.out.symm (fun j hj hb => by rcases hb with hb | hb; exact HA.out j (by omega) hb; omega) (HSV.out.below HB3.out) HSL3.out).mono ?_
  rintro e w4 ⟨v4, rfl, hown4, hg4, hst4⟩
  obtain ⟨n4, hn4⟩ : ∃ n4, out.length = n4 := ⟨_, rfl⟩
  obtain ⟨A4, c4, rfl, -, -⟩ := hown4.slc encS_len hn4
  have hne : some R ≠ some w.heap.size := fun h => by injection h with h; omega
  have hgW3 : w.heap.size < W3.heap.size := by omega
  have hc4 : w4.cell? ⟨w.heap.size, 0, none⟩ = some (.slice none 0 0) := by rw [grown_cell hg4 hgW3 hne]; exact hc3
  have hz4 : w4.frozen? ⟨w.heap.size, 0, none⟩ = false := by rw [grown_frozen hg4 hgW3 hne]; exact hz3
  have hgw4 : w.heap.size < w4.heap.size := Nat.lt_of_lt_of_le hgW3 hg4.size
  have HG4 := Lib.hid (grown_trans (grown_of_below HB3.out (some R)) hg4)
  have HO4 := Lib.hid hown4
  have HS4 := Lib.hid hst4
  clear hg4 hown4 hst4 hn4 hc2 hz2 hc3 hz3
  rcases HO.out with ⟨rfl, rfl⟩ | ⟨rfl, rfl⟩
  · have hG5 := grown_trans (grown_setCell w4 ⟨w.heap.size, 0, none⟩ (.slice A4 n4 c4)) (grown_setCell (w4.setCell ⟨w.heap.size, 0, none⟩ (.slice A4 n4 c4)) ⟨w.heap.size, 0, none⟩ (.slice A4 n4 c4))
    have hO5 := (HO4.out.apart hG5 (noBad_ne (bad := fun i => i = w.heap.size) (fun i hi hb => by have := (HO4.out.lt i hi).1; omega) rfl)).base_le (base' := w.heap.size) (by omega)
    have hc5 : ∀ o, ((((w4.setCell ⟨w.heap.size, 0, none⟩ (.slice A4 n4 c4)).setCell ⟨w.heap.size, 0, none⟩ (.slice A4 n4 c4))).alloc o).cell? ⟨w.heap.size, 0, none⟩ = some (.slice A4 n4 c4) := fun o => by
      rw [World.cell?_alloc_lt _ _ _ (by rw [size_setCell, size_setCell]; exact hgw4)]
      exact World.cell?_setCell_same _ _ _ (World.cell?_setCell_same _ _ _ hc4)
    have H5 := Lib.hid (And.intro hG5 (And.intro hO5 hc5))
    clear hG5 hO5 hc5
    go_wp2_with fail
    obtain ⟨hG5, hO5, hc5⟩ := H5.out
    refine leaves_cons (f := 66) (args := #[.pointer (some ⟨w.heap.size, 0, none⟩)]) (by simp) (by simp [go_sem]) ?_
    refine (catch_idle w.heap.size _).mono ?_
    rintro e u' w'' ⟨rfl, rfl, rfl⟩
    refine obey_end (g := w.heap.size) rfl HS.out.1 hRw HG4.out HS4.out hG5 hO5 hc5 (fun W h => ?_) _
    simp [results, Tryz.results36, go_sem, h]
  · have hG5 := grown_trans (grown_trans (grown_trans (grown_setCell w4 ⟨w.heap.size, 0, none⟩ (.slice A4 n4 c4)) (grown_setCell _ ⟨w.heap.size, 0, none⟩ (.slice (some ⟨w4.heap.size, 0, none⟩) 1 1))) (grown_setCell _ ⟨w.heap.size, 0, none⟩ (.slice (some ⟨w4.heap.size, 0, none⟩) 1 1))) (World.grownBy_alloc _ (.cells #[.string (bs noL)] 9) (some w.heap.size))
    have hO5 := own_new' (enc := encS) (k := 1) (((w4.setCell ⟨w.heap.size, 0, none⟩ (.slice A4 n4 c4)).setCell ⟨w.heap.size, 0, none⟩ (.slice (some ⟨w4.heap.size, 0, none⟩) 1 1)).setCell ⟨w.heap.size, 0, none⟩ (.slice (some ⟨w4.heap.size, 0, none⟩) 1 1)) 9 w.heap.size (by rw [size_setCell, size_setCell, size_setCell]; omega) encS_len [bs noL] #[.string (bs noL)] rfl (by unfold maxLen; simp) rfl (g := w4.heap.size) (by rw [size_setCell, size_setCell, size_setCell])
    have hc5 : ∀ o, (((((w4.setCell ⟨w.heap.size, 0, none⟩ (.slice A4 n4 c4)).setCell ⟨w.heap.size, 0, none⟩ (.slice (some ⟨w4.heap.size, 0, none⟩) 1 1)).setCell ⟨w.heap.size, 0, none⟩ (.slice (some ⟨w4.heap.size, 0, none⟩) 1 1)).alloc (.cells #[.string (bs noL)] 9)).alloc o).cell? ⟨w.heap.size, 0, none⟩ = some (.slice (some ⟨w4.heap.size, 0, none⟩) 1 1) := fun o => by
      have hx : (((w4.setCell ⟨w.heap.size, 0, none⟩ (.slice A4 n4 c4)).setCell ⟨w.heap.size, 0, none⟩ (.slice (some ⟨w4.heap.size, 0, none⟩) 1 1)).setCell ⟨w.heap.size, 0, none⟩ (.slice (some ⟨w4.heap.size, 0, none⟩) 1 1)).heap.size = w4.heap.size := by rw [size_setCell, size_setCell, size_setCell]
      rw [(below_alloc (below_alloc (Below.refl _ (((w4.setCell ⟨w.heap.size, 0, none⟩ (.slice A4 n4 c4)).setCell ⟨w.heap.size, 0, none⟩ (.slice (some ⟨w4.heap.size, 0, none⟩) 1 1)).setCell ⟨w.heap.size, 0, none⟩ (.slice (some ⟨w4.heap.size, 0, none⟩) 1 1))) _) _).cell (by rw [hx]; exact hgw4)]
      exact World.cell?_setCell_same _ _ _ (World.cell?_setCell_same _ _ _ (World.cell?_setCell_same _ _ _ hc4))
    have H5 := Lib.hid (And.intro hG5 (And.intro hO5 hc5))
    clear hG5 hO5 hc5
    go_wp2_with fail
    obtain ⟨hG5, hO5, hc5⟩ := H5.out
    refine leaves_cons (f := 66) (args := #[.pointer (some ⟨w.heap.size, 0, none⟩)]) (by simp) (by simp [go_sem]) ?_
    refine (catch_idle w.heap.size _).mono ?_
    rintro e u' w'' ⟨rfl, rfl, rfl⟩
    refine obey_end (g := w.heap.size) rfl HS.out.1 hRw HG4.out HS4.out hG5 hO5 hc5 (fun W h => ?_) _
    simp [results, Tryz.results36, go_sem, h]
end Go.Proofs.YtgjllminidlolaaGreatDoor
/- Contracts: summary. -/
set_option linter.unusedVariables false
namespace Go.Proofs.YtgjllminidlolaaGreatDoor
open Go.RowKit

/-- What the fields of the office hold. -/
theorem St.fields {w0 W : World} {R : Nat} {s : LSt} {av : Nat → Prop} (h : St w0 R s av W) :
    ∃ A1 c1 A2 c2 A3 c3, W.cell? ⟨R, 0, none⟩ = some (.slice A1 s.roads.length c1) ∧ W.cell? ⟨R, 1, none⟩ = some (.slice A2 s.net.length c2) ∧ W.cell? ⟨R, 2, none⟩ = some (.slice A3 s.list.length c3) ∧ R < W.heap.size := by
  obtain ⟨h1, h2, h3, h4, vr, vc, vb, ⟨o1, o2, o3, o4⟩, ⟨hv, -⟩, ⟨vs, hn, -, hl, -⟩, hb1, -⟩ := h
  obtain ⟨A1, c1, rfl, -, -⟩ := hv.slc enc3_len rfl
  obtain ⟨A2, c2, rfl, -, -⟩ := hn.slc encV_len hl
  obtain ⟨A3, c3, rfl, -, -⟩ := hb1.slc encB_len rfl
  exact ⟨A1, c1, A2, c2, A3, c3, o1, o2, o3, h2⟩
theorem itoa_nat (n : Nat) (h : n < 100) (W : World) : Calls Tryz.prog 68 #[.int .i64 n] W (fun e w' => e = .returned (.string (bs (Lib.decDigits n))) ∧ w' = W) := Tryz.strconv_Itoa_small n h W
theorem add_lists (x y : List UInt8) (hx : x.length ≤ 1000) (hy : y.length ≤ 1000) (W : World) : (Op.stringOp .add (bs x) (bs y)).run Tryz.prog W = .ok (.string (bs (x ++ y))) W := by
  have h := run_string_add_sum (P := Tryz.prog) (w := W) (bs x) (bs y) (by rw [bs_size, bs_size]; omega)
  rw [bs_append] at h
  exact h
set_option maxRecDepth 20000 in
set_option maxHeartbeats 1600000 in
theorem summary_any (w0 : World) (R : Nat) (s : LSt) (av : Nat → Prop) (W : World) (hs : St w0 R s av W) (h1 : s.roads.length < 100) (h2 : s.net.length < 100) (h3 : s.list.length < 100) :
    Calls Tryz.prog 37 #[.pointer (some ⟨R, 0, none⟩)] W (Only (.string (bs (endL s.roads.length s.net.length s.list.length))) W) := by
  obtain ⟨A1, c1, A2, c2, A3, c3, k1, k2, k3, hR⟩ := hs.fields
  generalize s.roads.length = a at *
  generalize s.net.length = b at *
  generalize s.list.length = c at *
  clear hs
  have la := decDigits_len 2 a (by omega) (by omega)
  have lb := decDigits_len 2 b (by omega) (by omega)
  have lc := decDigits_len 2 c (by omega) (by omega)
  have a1 : ∀ W, (Op.stringOp .add ⟨#[114, 111, 97, 100, 115, 32]⟩ (bs (Lib.decDigits a))).run Tryz.prog W = .ok (.string (bs ([114, 111, 97, 100, 115, 32] ++ Lib.decDigits a))) W := add_lists [114, 111, 97, 100, 115, 32] _ (by simp) (by omega)
  have a2 : ∀ W, (Op.stringOp .add (bs ([114, 111, 97, 100, 115, 32] ++ Lib.decDigits a)) ⟨#[32, 99, 111, 97, 99, 104, 101, 115, 32]⟩).run Tryz.prog W = .ok (.string (bs ([114, 111, 97, 100, 115, 32] ++ Lib.decDigits a ++ [32, 99, 111, 97, 99, 104, 101, 115, 32]))) W := add_lists _ [32, 99, 111, 97, 99, 104, 101, 115, 32] (by simp; omega) (by simp)
  have a3 : ∀ W, (Op.stringOp .add (bs ([114, 111, 97, 100, 115, 32] ++ Lib.decDigits a ++ [32, 99, 111, 97, 99, 104, 101, 115, 32])) (bs (Lib.decDigits b))).run Tryz.prog W = .ok (.string (bs ([114, 111, 97, 100, 115, 32] ++ Lib.decDigits a ++ [32, 99, 111, 97, 99, 104, 101, 115, 32] ++ Lib.decDigits b))) W := add_lists _ _ (by simp; omega) (by omega)
  have a4 : ∀ W, (Op.stringOp .add (bs ([114, 111, 97, 100, 115, 32] ++ Lib.decDigits a ++ [32, 99, 111, 97, 99, 104, 101, 115, 32] ++ Lib.decDigits b)) ⟨#[32, 98, 111, 111, 107, 105, 110, 103, 115, 32]⟩).run Tryz.prog W = .ok (.string (bs ([114, 111, 97, 100, 115, 32] ++ Lib.decDigits a ++ [32, 99, 111, 97, 99, 104, 101, 115, 32] ++ Lib.decDigits b ++ [32, 98, 111, 111, 107, 105, 110, 103, 115, 32]))) W := add_lists _ [32, 98, 111, 111, 107, 105, 110, 103, 115, 32] (by simp; omega) (by simp)
  have a5 : ∀ W, (Op.stringOp .add (bs ([114, 111, 97, 100, 115, 32] ++ Lib.decDigits a ++ [32, 99, 111, 97, 99, 104, 101, 115, 32] ++ Lib.decDigits b ++ [32, 98, 111, 111, 107, 105, 110, 103, 115, 32])) (bs (Lib.decDigits c))).run Tryz.prog W = .ok (.string (bs (endL a b c))) W := add_lists _ _ (by simp; omega) (by omega)
  have J1 := fun W => itoa_nat a h1 W
  have J2 := fun W => itoa_nat b h2 W
  have J3 := fun W => itoa_nat c h3 W
  clear la lb lc
  generalize bs (endL a b c) = T5 at *
  generalize bs ([114, 111, 97, 100, 115, 32] ++ Lib.decDigits a ++ [32, 99, 111, 97, 99, 104, 101, 115, 32] ++ Lib.decDigits b ++ [32, 98, 111, 111, 107, 105, 110, 103, 115, 32]) = T4 at *
  generalize bs ([114, 111, 97, 100, 115, 32] ++ Lib.decDigits a ++ [32, 99, 111, 97, 99, 104, 101, 115, 32] ++ Lib.decDigits b) = T3 at *
  generalize bs ([114, 111, 97, 100, 115, 32] ++ Lib.decDigits a ++ [32, 99, 111, 97, 99, 104, 101, 115, 32]) = T2 at *
  generalize bs ([114, 111, 97, 100, 115, 32] ++ Lib.decDigits a) = T1 at *
  generalize bs (Lib.decDigits a) = D1 at *
  generalize bs (Lib.decDigits b) = D2 at *
  generalize bs (Lib.decDigits c) = D3 at *
  have K1 := Lib.hid J1
  have K2 := Lib.hid J2
  have K3 := Lib.hid J3
  clear J1 J2 J3
  go_enter Tryz.func37, Tryz.ntmps37
  go_wp2_with fail
  go_quiet ((go_at_call 68; first | (with_reducible_and_instances exact Calls.quiet_of_same (K1.out _)) | (with_reducible_and_instances exact Calls.quiet_of_same (K2.out _)) | (with_reducible_and_instances exact Calls.quiet_of_same (K3.out _)) | fail))
  go_wp2_with fail
  go_ret
  exact ⟨rfl, bl_drewN (Below.refl _ _) _⟩
end Go.Proofs.YtgjllminidlolaaGreatDoor
/- Contracts: digits of the laws. -/
set_option linter.unusedVariables false
namespace Go.Proofs.YtgjllminidlolaaGreatDoor
open Go.RowKit

theorem conv_byte {W : World} {b : Nat} {x : Int} (h : W.cell? ⟨b, 0, none⟩ = some (.int .u8 x)) : (convert 22 9 (.slice (some ⟨b, 0, none⟩) 1 1)).run Tryz.prog W = .ok (.string (bs [UInt8.ofNat x.toNat])) W := by
  have h1 := run_convert_bytes_arg (P := Tryz.prog) W 22 5 Tryz.underlying22 Tryz.underlying5 b 0 1 1 [x] rfl (fun i hi => by
    obtain rfl : i = 0 := by omega
    exact h) 9 Tryz.underlying9
  exact h1
theorem digit_byte (n : Nat) (h : n < 10) : UInt8.ofNat (48 + (n : Int)).toNat = UInt8.ofNat (48 + n) := by
  congr 1
theorem dec_small {n : Nat} (h : n < 10) : Lib.decDigits n = [UInt8.ofNat (48 + n)] := by
  rw [Lib.decDigits, dif_pos h]
theorem dec_large {n : Nat} (h : ¬ n < 10) : Lib.decDigits n = Lib.decDigits (n / 10) ++ [UInt8.ofNat (48 + n % 10)] := by
  rw [Lib.decDigits, dif_neg h]
set_option maxRecDepth 20000 in
set_option maxHeartbeats 1600000 in
theorem digits_any : ∀ (n : Nat) (w : World), n < 1000000000000 →
    Calls Tryz.prog 19 #[.int .i64 n] w (Only (.string (bs (Lib.decDigits n))) w) := by
  intro n
  induction n using Nat.strongRecOn with
  | _ n ih =>
    intro w hn
    by_cases h : n < 10
    · have hconv : (convert 22 9 (.slice (some ⟨w.heap.size, 0, none⟩) 1 1)).run Tryz.prog (w.alloc (.cells #[.int .u8 (48 + (n : Int))] 5)) = .ok (.string (bs (Lib.decDigits n))) (w.alloc (.cells #[.int .u8 (48 + (n : Int))] 5)) := by
        rw [dec_small h, ← digit_byte n h]
        exact conv_byte (by simp)
      have i0 : (n : Int) < 10 := by omega
      have HB := Lib.hid (below_alloc (Below.refl w.heap.size w) (.cells #[.int .u8 (48 + (n : Int))] 5))
      clear ih
      generalize bs (Lib.decDigits n) = T at *
      go_enter Tryz.func19, Tryz.ntmps19
      go_wp2_with fail
      go_ret
      exact ⟨rfl, HB.out⟩
    · have i0 : ¬ (n : Int) < 10 := by omega
      obtain ⟨q, hq⟩ : ∃ q, n / 10 = q := ⟨_, rfl⟩
      obtain ⟨r, hr⟩ : ∃ r, n % 10 = r := ⟨_, rfl⟩
      have hr10 : r < 10 := by omega
      have q1 : (n : Int) / 10 = (q : Int) := by omega
      have r1 : (n : Int) % 10 = (r : Int) := by omega
      have q2 : Int.tdiv (n : Int) 10 = (q : Int) := by rw [Int.tdiv_eq_ediv_of_nonneg (by omega)]; exact q1
      have r2 : Int.tmod (n : Int) 10 = (r : Int) := by rw [Int.tmod_eq_emod_of_nonneg (by omega)]; exact r1
      have wr1 : IntKind.i64.wrap (q : Int) = (q : Int) := IntWalk.i64_in _ (by omega)
      have wr2 : IntKind.i64.wrap (48 + (r : Int)) = 48 + (r : Int) := IntWalk.i64_in _ (by omega)
      have wr3 : IntKind.u8.wrap (48 + (r : Int)) = 48 + (r : Int) := IntWalk.u8_in _ (by omega)
      have IH := Lib.hid (fun W => ih q (by omega) W (by omega))
      have hl := decDigits_len 12 q (by omega) (by omega)
      have hconv : ∀ (W : World) (b : Nat), W.cell? ⟨b, 0, none⟩ = some (.int .u8 (48 + (r : Int))) → (convert 22 9 (.slice (some ⟨b, 0, none⟩) 1 1)).run Tryz.prog W = .ok (.string (bs [UInt8.ofNat (48 + r)])) W := fun W b hc => by
        rw [← digit_byte r hr10]
        exact conv_byte hc
      have hadd : ∀ W, (Op.stringOp .add (bs (Lib.decDigits q)) (bs [UInt8.ofNat (48 + r)])).run Tryz.prog W = .ok (.string (bs (Lib.decDigits n))) W := fun W => by
        rw [dec_large h, hq, hr]
        exact add_lists _ _ (by omega) (by simp) W
      clear ih hq hr
      generalize bs (Lib.decDigits n) = T at *
      generalize bs (Lib.decDigits q) = TQ at *
      generalize bs [UInt8.ofNat (48 + r)] = TR at *
      go_enter Tryz.func19, Tryz.ntmps19
      go_wp2_with fail
      have HCW := Lib.hid (show (w.alloc (.cells #[.int .u8 (48 + (r : Int))] 5)).drew.cell? ⟨w.heap.size, 0, none⟩ = some (.int .u8 (48 + (r : Int))) by simp)
      have HB0 := Lib.hid (below_drew (below_alloc (Below.refl w.heap.size w) (.cells #[.int .u8 (48 + (r : Int))] 5)))
      have HB1 := Lib.hid (below_drew (Below.refl w.heap.size w))
      go_region_with (first
        | (go_at_call 19; (with_reducible_and_instances refine (IH.out (w.alloc (.cells #[.int .u8 (48 + (r : Int))] 5)).drew).mono ?_); rintro e w2 ⟨rfl, hb2⟩; have HB2 := Lib.hid (below_trans HB0.out hb2); have hc2 := cell_below hb2 HCW.out; clear hb2)
        | (go_at_call 19; (with_reducible_and_instances refine (IH.out w.drew).mono ?_); rintro e w2 ⟨rfl, hb2⟩; have HB2 := Lib.hid (below_alloc (below_trans HB1.out hb2) (.cells #[.int .u8 (48 + (r : Int))] 5)); clear hb2))
      all_goals (go_wp2_with fail; go_ret; exact ⟨rfl, HB2.out⟩)
end Go.Proofs.YtgjllminidlolaaGreatDoor
