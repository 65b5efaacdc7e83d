/- Contracts: parse of a known line. -/
import Derived.Test.YtgjllminidlolaaGreatDoorEWalkE
set_option linter.unusedVariables false
namespace Go.Proofs.YtgjllminidlolaaGreatDoor
open Go.RowKit

/-- A line is a known one. -/
def ParseYes (n : Int) (k : Nat) (ns : List Int) (w : World) (e : Ending) (w' : World) : Prop :=
  ∃ v, e = .returned (.tuple #[.agg #[.int .i64 n, .func (.func k) #[] #[]], v]) ∧ OwnE 1 encI 3 w.heap.size w' v ns ∧ Below w.heap.size w w'
/-- The two cells of the result. -/
def ResAt (r : Nat) (a b : Value) (W : World) : Prop := W.cell? ⟨r, 0, none⟩ = some a ∧ W.cell? ⟨r, 1, none⟩ = some b ∧ W.frozen? ⟨r, 0, none⟩ = false ∧ W.frozen? ⟨r, 1, none⟩ = false ∧ r < W.heap.size
theorem ResAt.below {r : Nat} {a b : Value} {W W' : World} (h : ResAt r a b W) (hb : Below W.heap.size W W') : ResAt r a b W' :=
  ⟨by rw [hb.cell h.2.2.2.2]; exact h.1, by rw [hb.cell h.2.2.2.2]; exact h.2.1, by rw [hb.frozen h.2.2.2.2]; exact h.2.2.1, by rw [hb.frozen h.2.2.2.2]; exact h.2.2.2.1, Nat.lt_of_lt_of_le h.2.2.2.2 hb.size⟩
theorem resAt_new (w : World) (a b : Value) (T : TypeId) : ResAt w.heap.size a b (w.alloc (.cells #[a, b] T)) :=
  ⟨by simp, by simp, by simp, by simp, by show _ < (w.heap.push _).size; rw [Array.size_push]; omega⟩

set_option maxRecDepth 20000 in
set_option maxHeartbeats 6400000 in
theorem parse_yes (s : ByteArray) (wd : List UInt8) (ws : List (List UInt8)) (nw : Int) (k : Nat) (w : World) (hm : Env w) (hs : s.size ≤ 1000) (hc : cutL 32 s.data.toList = wd :: ws) (hn : cmdOf (bs wd) = some (nw, k)) (hf : Fits nw ws.length) :
    Calls Tryz.prog 67 #[.string s] w (ParseYes nw k (ws.map numL) w) := by
  have HM := Lib.hid hm
  have HN := Lib.hid hn
  have HC := Lib.hid hc
  have HB0 := Lib.hid (below_alloc (Below.refl w.heap.size w) (.cells #[.int .i64 0, .nilFunc] 113))
  have HR0 := Lib.hid (resAt_new w (.int .i64 0) .nilFunc 113)
  have HF := Lib.hid hf
  clear hm hn hc hf
  go_enter Tryz.func67, Tryz.ntmps67
  go_wp2_with fail
  refine (split_any 32 s _ (HM.out.below HB0.out HM.out.1) hs).mono ?_
  rintro e w2 ⟨g, n, hn, rfl, hsl, hb2, -, hg, hn1⟩
  rw [HC.out] at hn hsl
  obtain ⟨b, off, x, hA, hbl, hx, -, g0⟩ := atS hsl (Below.refl _ _) (show 0 < n by rw [hn]; simp)
  injection hA with hA
  injection hA with hA1 hA2
  subst hA1 hA2
  simp only [List.map_cons, List.getElem?_cons_zero, Option.some.injEq] at hx
  subst hx
  rw [Nat.add_zero] at g0
  obtain ⟨m, rfl⟩ : ∃ m : Nat, n = m + 1 := ⟨n - 1, by rw [hn]; simp⟩
  have hmw : m = ws.length := by simpa using hn
  have HB2 := Lib.hid (below_trans HB0.out hb2)
  have HR2 := Lib.hid (HR0.out.below hb2)
  have HS2 := Lib.hid hsl
  have HMW := Lib.hid hmw
  rw [← hmw] at HF
  clear hb2 hsl hn hbl HB0 HR0 hmw
  go_wp2_with fail
  refine (commandOf_any (bs wd) w2).mono ?_
  rintro e w3 ⟨hb3, he⟩
  rw [HN.out] at he
  subst he
  have HB3 := Lib.hid (below_trans HB2.out hb3)
  have HR3 := Lib.hid (HR2.out.below hb3)
  have HS3 := Lib.hid (HS2.out.below hb3)
  clear hb3 HB2 HR2 HS2 g0 hg
  unfold cmdV
  have HB4 := Lib.hid (below_alloc HB3.out (.cells #[.int .i64 nw, .func (.func k) #[] #[]] 113))
  have HR4 := Lib.hid (HR3.out.below (below_alloc (Below.refl _ _) (.cells #[.int .i64 nw, .func (.func k) #[] #[]] 113)))
  have HS4 := Lib.hid (HS3.out.alloc (.cells #[.int .i64 nw, .func (.func k) #[] #[]] 113))
  have HQ4 := Lib.hid (resAt_new w3 (.int .i64 nw) (.func (.func k) #[] #[]) 113)
  have HR3L := Lib.hid HR3.out.2.2.2.2
  clear HB3 HR3 HS3
  have e1 : ((m + 1 : Nat) : Int) - 1 = (m : Int) := by omega
  rcases HF.out with hf | ⟨hneg, hm0, hm3⟩
  · have fm : ((m : Int) == nw) = true := by simp [hf]
    go_wp2_with fail
    all_goals
      go_loopw [9, 56, 11] (fun s i _ wr => ∃ j : Nat, j ≤ m ∧ i = .int .i64 j ∧ OwnE 1 encI 3 (w3.heap.size + 1) wr s ((ws.take j).map numL) ∧ Below (w3.alloc (.cells #[.int .i64 nw, .func (.func k) #[] #[]] 113)).heap.size (w3.alloc (.cells #[.int .i64 nw, .func (.func k) #[] #[]] 113)) wr) (fun _ i _ _ => m - (intOf i).toNat)
      case atStart => exact ⟨0, by omega, rfl, own_new' _ _ _ (by show _ ≤ (w3.heap.push _).size; rw [Array.size_push]; omega) encI_len [] #[] rfl (by simp) rfl (by show _ = (w3.heap.push _).size; rw [Array.size_push]), below_alloc (Below.refl _ _) _⟩
      case round =>
        obtain ⟨j, hj, rfl, hown, hbr⟩ := hrel
        have HO := Lib.hid hown
        have HB := Lib.hid hbr
        have hszr : w3.heap.size + 1 ≤ wr.heap.size := by
          have := hbr.size
          rw [show (w3.alloc (.cells #[.int .i64 nw, .func (.func k) #[] #[]] 113)).heap.size = w3.heap.size + 1 from by show (w3.heap.push _).size = _; rw [Array.size_push]] at this
          exact this
        clear hown hbr
        by_cases hjm : j < m
        rotate_left
        · obtain rfl : j = m := by omega
          have e : ws.take j = ws := List.take_of_length_le (by rw [HMW.out]; omega)
          rw [e] at HO
          obtain ⟨q1, q2, q3, q4, q5⟩ := HQ4.out.below HB.out
          obtain ⟨r1, r2, r3, r4, r5⟩ := HR4.out.below HB.out
          have hw3 : w.heap.size < w3.heap.size := HR3L.out
          have HFB := Lib.hid ((((HB4.out.trans (HB.out.mono HB4.out.size))).setCell (p := ⟨w.heap.size, 0, none⟩) (Nat.le_refl _) (.int .i64 nw)).setCell (p := ⟨w.heap.size, 1, none⟩) (Nat.le_refl _) (.func (.func k) #[] #[]))
          have HFO := Lib.hid (((HO.out.apart (grown_setCell wr ⟨w.heap.size, 0, none⟩ (.int .i64 nw)) (noBad_ne (bad := fun i => i = w.heap.size) (fun i hi hb => by have := (HO.out.lt i hi).1; omega) rfl)).apart (grown_setCell _ ⟨w.heap.size, 1, none⟩ (.func (.func k) #[] #[])) (noBad_ne (bad := fun i => i = w.heap.size) (fun i hi hb => by have := (HO.out.lt i hi).1; omega) rfl)).base_le (base' := w.heap.size) (by omega))
          clear HO HB e
          generalize ws.map numL = ns at *
          go_wp2_with fail
          refine bodyPost_ret (v := .tuple #[.agg #[.int .i64 nw, .func (.func k) #[] #[]], _]) (by rw [results_cell_tmp rfl]; go_simp; rfl) rfl ?_
          exact ⟨_, rfl, HFO.out, HFB.out⟩
        · try (exfalso; omega)
          all_goals
            obtain ⟨b, off, x, hA, hbl, hx, -, g1⟩ := atS HS4.out HB.out (show 1 + j < m + 1 by omega)
            injection hA with hA
            injection hA with hA1 hA2
            subst hA1 hA2
            rw [Nat.zero_add] at g1
            obtain ⟨wj, hwj⟩ : ∃ wj, ws[j]? = some wj := ⟨_, List.getElem?_eq_getElem (by rw [← HMW.out]; exact hjm)⟩
            obtain rfl : x = bs wj := by
              rw [Nat.add_comm, List.map_cons, List.getElem?_cons_succ, List.getElem?_map, hwj] at hx
              simpa using hx.symm
            have HN2 := Lib.hid (show (ws.take (j + 1)).map numL = (ws.take j).map numL ++ [numL wj] by rw [take_next hwj, List.map_append]; rfl)
            have HDL := Lib.hid (show ((ws.take j).map numL).length = j by rw [List.length_map, List.length_take, ← HMW.out]; omega)
            clear hx hwj
            generalize (ws.take j).map numL = rs at *
            go_wp2_with fail
            refine (numberOf_any (bs wj) _).mono ?_
            rintro e w5 ⟨rfl, hb5⟩
            have HO2 := Lib.hid (HO.out.below hb5 (Nat.le_refl _))
            have HB5 := Lib.hid (HB.out.trans (hb5.mono HB.out.size))
            have hsz5 := Nat.le_trans hszr hb5.size
            rw [bs_data]
            clear hb5 HO HB
            go_wp2_with (at_builtin; refine wpList_push 1 8 3 encI encI_len encI_one (by omega) (numL wj) _ _ rfl rfl _ _ _ rfl Tryz.underlying29 info_intN rfl (w3.heap.size + 1) _ _ rfl rfl rfl HO2.out (by rw [HDL.out]; omega) (by rw [HDL.out]; unfold maxLen; omega) hsz5 ?_; intro v' w' hown' hg'; have HO' := Lib.hid hown'; have HB' := Lib.hid (HB5.out.grown hg' HB5.out.size (fun i hi => by have := (HO2.out.lt i hi).1; show (w3.heap.push _).size ≤ i; rw [Array.size_push]; omega)); clear hown' hg')
            go_roundw
            case rel => exact ⟨j + 1, by omega, by go_num, by rw [HN2.out]; exact HO'.out, HB'.out⟩
            case measure => simp [intOf]; omega
  · have i0 : (0 : Int) < (m : Int) := by omega
    have fm : ((m : Int) == nw) = false := by simp only [beq_eq_false_iff_ne]; omega
    have f3 : ((m : Int) % 3 == 0) = true := by
      have : (m : Int) % 3 = 0 := by omega
      simp only [beq_iff_eq]
      exact this
    go_wp2_with fail
    all_goals
      go_loopw [9, 56, 11] (fun s i _ wr => ∃ j : Nat, j ≤ m ∧ i = .int .i64 j ∧ OwnE 1 encI 3 (w3.heap.size + 1) wr s ((ws.take j).map numL) ∧ Below (w3.alloc (.cells #[.int .i64 nw, .func (.func k) #[] #[]] 113)).heap.size (w3.alloc (.cells #[.int .i64 nw, .func (.func k) #[] #[]] 113)) wr) (fun _ i _ _ => m - (intOf i).toNat)
      case atStart => exact ⟨0, by omega, rfl, own_new' _ _ _ (by show _ ≤ (w3.heap.push _).size; rw [Array.size_push]; omega) encI_len [] #[] rfl (by simp) rfl (by show _ = (w3.heap.push _).size; rw [Array.size_push]), below_alloc (Below.refl _ _) _⟩
      case round =>
        obtain ⟨j, hj, rfl, hown, hbr⟩ := hrel
        have HO := Lib.hid hown
        have HB := Lib.hid hbr
        have hszr : w3.heap.size + 1 ≤ wr.heap.size := by
          have := hbr.size
          rw [show (w3.alloc (.cells #[.int .i64 nw, .func (.func k) #[] #[]] 113)).heap.size = w3.heap.size + 1 from by show (w3.heap.push _).size = _; rw [Array.size_push]] at this
          exact this
        clear hown hbr
        by_cases hjm : j < m
        rotate_left
        · obtain rfl : j = m := by omega
          have e : ws.take j = ws := List.take_of_length_le (by rw [HMW.out]; omega)
          rw [e] at HO
          obtain ⟨q1, q2, q3, q4, q5⟩ := HQ4.out.below HB.out
          obtain ⟨r1, r2, r3, r4, r5⟩ := HR4.out.below HB.out
          have hw3 : w.heap.size < w3.heap.size := HR3L.out
          have HFB := Lib.hid ((((HB4.out.trans (HB.out.mono HB4.out.size))).setCell (p := ⟨w.heap.size, 0, none⟩) (Nat.le_refl _) (.int .i64 nw)).setCell (p := ⟨w.heap.size, 1, none⟩) (Nat.le_refl _) (.func (.func k) #[] #[]))
          have HFO := Lib.hid (((HO.out.apart (grown_setCell wr ⟨w.heap.size, 0, none⟩ (.int .i64 nw)) (noBad_ne (bad := fun i => i = w.heap.size) (fun i hi hb => by have := (HO.out.lt i hi).1; omega) rfl)).apart (grown_setCell _ ⟨w.heap.size, 1, none⟩ (.func (.func k) #[] #[])) (noBad_ne (bad := fun i => i = w.heap.size) (fun i hi hb => by have := (HO.out.lt i hi).1; omega) rfl)).base_le (base' := w.heap.size) (by omega))
          clear HO HB e
          generalize ws.map numL = ns at *
          go_wp2_with fail
          refine bodyPost_ret (v := .tuple #[.agg #[.int .i64 nw, .func (.func k) #[] #[]], _]) (by rw [results_cell_tmp rfl]; go_simp; rfl) rfl ?_
          exact ⟨_, rfl, HFO.out, HFB.out⟩
        · try (exfalso; omega)
          all_goals
            obtain ⟨b, off, x, hA, hbl, hx, -, g1⟩ := atS HS4.out HB.out (show 1 + j < m + 1 by omega)
            injection hA with hA
            injection hA with hA1 hA2
            subst hA1 hA2
            rw [Nat.zero_add] at g1
            obtain ⟨wj, hwj⟩ : ∃ wj, ws[j]? = some wj := ⟨_, List.getElem?_eq_getElem (by rw [← HMW.out]; exact hjm)⟩
            obtain rfl : x = bs wj := by
              rw [Nat.add_comm, List.map_cons, List.getElem?_cons_succ, List.getElem?_map, hwj] at hx
              simpa using hx.symm
            have HN2 := Lib.hid (show (ws.take (j + 1)).map numL = (ws.take j).map numL ++ [numL wj] by rw [take_next hwj, List.map_append]; rfl)
            have HDL := Lib.hid (show ((ws.take j).map numL).length = j by rw [List.length_map, List.length_take, ← HMW.out]; omega)
            clear hx hwj
            generalize (ws.take j).map numL = rs at *
            go_wp2_with fail
            refine (numberOf_any (bs wj) _).mono ?_
            rintro e w5 ⟨rfl, hb5⟩
            have HO2 := Lib.hid (HO.out.below hb5 (Nat.le_refl _))
            have HB5 := Lib.hid (HB.out.trans (hb5.mono HB.out.size))
            have hsz5 := Nat.le_trans hszr hb5.size
            rw [bs_data]
            clear hb5 HO HB
            go_wp2_with (at_builtin; refine wpList_push 1 8 3 encI encI_len encI_one (by omega) (numL wj) _ _ rfl rfl _ _ _ rfl Tryz.underlying29 info_intN rfl (w3.heap.size + 1) _ _ rfl rfl rfl HO2.out (by rw [HDL.out]; omega) (by rw [HDL.out]; unfold maxLen; omega) hsz5 ?_; intro v' w' hown' hg'; have HO' := Lib.hid hown'; have HB' := Lib.hid (HB5.out.grown hg' HB5.out.size (fun i hi => by have := (HO2.out.lt i hi).1; show (w3.heap.push _).size ≤ i; rw [Array.size_push]; omega)); clear hown' hg')
            go_roundw
            case rel => exact ⟨j + 1, by omega, by go_num, by rw [HN2.out]; exact HO'.out, HB'.out⟩
            case measure => simp [intOf]; omega
end Go.Proofs.YtgjllminidlolaaGreatDoor
