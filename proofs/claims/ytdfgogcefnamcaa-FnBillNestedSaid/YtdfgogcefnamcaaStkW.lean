/- Contracts: the stack of packets of the program. -/
import Derived.Test.YtdfgogcefnamcaaWalkB
import Derived.Test.YtdfgogcefnamcaaCat
import Derived.Test.YtdfgogcefnamcaaStack
import Derived.Deep.RegionHeld3
import Derived.Deep.RegionLaw
import Derived.StillTailTactics
set_option linter.unusedVariables false
namespace Go.Proofs.Ytdfgogcefnamcaa
open Go.RowKit

set_option maxRecDepth 20000 in
set_option maxHeartbeats 400000 in
theorem isIt_any (a b i c idx : Int) (ib : Nat) (w : World) (hi : w.cell? ⟨ib, 0, none⟩ = some (.int .i64 idx)) :
    Calls Try.prog 94 #[.agg #[.int .i64 a, .int .i64 b, .int .i64 i, .int .i64 c], .pointer (some ⟨ib, 0, none⟩)] w (OnlyB (i = idx) w) := by
  have hlt := World.block_lt_of_cell? w _ hi
  simp only at hlt
  go_enter Try.func94, Try.ntmps94
  go_wp2
  go_ret
  exact ⟨_, rfl, by simp, below_alloc (Below.refl _ _) _⟩

theorem only_drewL {a b : World} {row : Option Nat} (h : a.drew.grownBy b row) : a.grownBy b row := ⟨h.os, h.tape, h.output, h.size, h.block⟩
/-- Where an index lies in a stack, or -1. -/
def findI (is : List Int) (i : Int) : Int := if i ∈ is then (is.idxOf i : Int) else -1

set_option maxRecDepth 20000 in
set_option maxHeartbeats 800000 in
theorem indexFunc_any (A : Option Addr) (n cap ib : Nat) (idx : Int) (ps : List P4) (w : World) (h : SlE 4 enc4 w A n ps) (hn : n ≤ 16777216) (hi : w.cell? ⟨ib, 0, none⟩ = some (.int .i64 idx)) :
    Calls Try.prog 93 #[.slice A n cap, .func (.func 94) #[] #[.pointer (some ⟨ib, 0, none⟩)]] w
      (Only (.int .i64 (findI (ps.map (·.i)) idx)) w) := by
  have H := Lib.hid h
  have HI := Lib.hid hi
  have hlt := World.block_lt_of_cell? w _ hi
  simp only at hlt
  clear h hi
  go_enter Try.func93, Try.ntmps93
  go_wp2
  go_loopw [8, 5] (fun i _ wr => ∃ k : Nat, k ≤ n ∧ i = .int .i64 k ∧ (idx ∉ (ps.take k).map (·.i)) ∧ Below w.heap.size w wr) (fun i _ _ => n - (intOf i).toNat)
  case atStart => exact ⟨0, by omega, rfl, by simp, Below.refl _ _⟩
  case round =>
    obtain ⟨k, hk, rfl, hno, hbr⟩ := hrel
    have HR := Lib.hid hbr
    have HN := Lib.hid hno
    clear hno hbr
    by_cases hlt : k < n
    · obtain ⟨b, off, x, y, i, z, rfl, hbl, hx, h0, h1, h2, h3⟩ := at4 H.out HR.out hlt
      have HX := Lib.hid hx
      have HC := Lib.hid ((HR.out.cell (p := ⟨ib, 0, none⟩) (by assumption)).trans HI.out)
      clear hx
      by_cases he : i = idx
      · have HE := Lib.hid he
        clear he
        go_wp2_with (go_at_call 94; refine (isIt_any _ _ _ _ _ _ _ HC.out).mono ?_; intro e w2 hp; obtain ⟨rfl, hb2⟩ := hp.yes HE.out; have HB2 := Lib.hid (below_trans HR.out hb2); clear hb2 hp)
        go_ret
        refine ⟨ret_int ?_, HB2.out⟩
        have hm : (ps.map (·.i))[k]? = some idx := by rw [List.getElem?_map, HX.out]; simp [HE.out]
        have hmem : idx ∈ ps.map (·.i) := List.mem_of_getElem? hm
        unfold findI
        rw [if_pos hmem]
        have e1 : ps.map (·.i) = (ps.take k).map (·.i) ++ (ps.drop k).map (·.i) := by rw [← List.map_append, List.take_append_drop]
        have hkl := (List.getElem?_eq_some_iff.1 HX.out).1
        have e2 : ps.drop k = ⟨x, y, i, z⟩ :: ps.drop (k + 1) := by
          rw [List.drop_eq_getElem_cons hkl, (List.getElem?_eq_some_iff.1 HX.out).2]
        rw [e1, List.idxOf_append, if_neg HN.out, e2, List.map_cons, HE.out, List.idxOf_cons_self, List.length_map, List.length_take]
        omega
      · have HE := Lib.hid he
        clear he
        go_wp2_with (go_at_call 94; refine (isIt_any _ _ _ _ _ _ _ HC.out).mono ?_; intro e w2 hp; obtain ⟨rfl, hb2⟩ := hp.no HE.out; have HB2 := Lib.hid (below_trans HR.out hb2); clear hb2 hp)
        go_roundw
        case rel => exact ⟨k + 1, by omega, by go_num, by rw [take_next HX.out, List.map_append, List.mem_append]; intro h; rcases h with h | h; exact HN.out h; simp at h; exact HE.out h.symm, HB2.out⟩
        case measure => simp [intOf]; omega
    · have hx : ps.take k = ps := List.take_of_length_le (by have := H.out.len; omega)
      rw [hx] at HN
      clear hx
      go_wp2
      go_ret
      exact ⟨ret_int (by unfold findI; rw [if_neg HN.out]), HR.out⟩

set_option maxRecDepth 20000 in
set_option maxHeartbeats 1600000 in
theorem delete_any (g n cap B i : Nat) (ps : List P4) (w : World) (h : OwnE 4 enc4 78 B w (.slice (some ⟨g, 0, none⟩) n cap) ps) (hl : ps.length = n) (hn : n ≤ 16777216) (hnc : n ≤ cap) (hi : i < n) :
    Calls Try.prog 95 #[.slice (some ⟨g, 0, none⟩) n cap, .int .i64 i, .int .i64 (i + 1)] w fun e w' =>
      e = .returned (.slice (some ⟨g, 0, none⟩) (n - 1) cap) ∧ OwnE 4 enc4 78 B w' (.slice (some ⟨g, 0, none⟩) (n - 1) cap) (ps.eraseIdx i) ∧ w.grownBy w' (some g) := by
  have H := Lib.hid h
  have HL := Lib.hid hl
  clear h hl
  have k1 : (0 : Int) ≤ (i : Int) := by omega
  have k2 : (i : Int) ≤ (cap : Int) := by omega
  have k3 : (0 : Int) ≤ (i : Int) + 1 := by omega
  have k4 : (i : Int) + 1 ≤ (n : Int) := by omega
  have k5 : (i : Int) + 1 ≤ (cap : Int) := by omega
  have k6 : (n : Int) ≤ (cap : Int) := by omega
  have k9 : (i : Int) ≤ (i : Int) + 1 := by omega
  have k8 : ((i : Int) + 1).toNat = i + 1 := by omega
  go_enter Try.func95, Try.ntmps95
  have HN := Lib.hid hn
  have k7 : IntKind.i64.wrap ((i : Int) + 1) = (i : Int) + 1 := IntWalk.i64_in _ (by omega)
  have hne : ((i : Int) == (i : Int) + 1) = false := by simp; omega
  have S0 := Lib.hid (sl_of_own_at enc4_len H.out HL.out)
  have hcut := (S0.out.drop (k := 4) (j := i + 1) hi (A' := if cap = i + 1 then some ⟨g, 0, none⟩ else some ⟨g, (i + 1) * 4, none⟩) (fun b off hA hj => by
    injection hA with hA
    injection hA with e1 e2
    subst e1 e2
    rw [if_neg (by omega), Nat.zero_add])).drew
  have hA : (if cap = i + 1 then some (⟨g, 0, none⟩ : Addr) else some ⟨g, (i + 1) * 4, none⟩).isSome = true := by split <;> rfl
  have hl2 : (ps.take i).length = i := by rw [List.length_take, HL.out]; omega
  have hroom : i + (n - (i + 1)) ≤ cap := by omega
  have X := Lib.hid (And.intro hcut (And.intro hA (And.intro hl2 hroom)))
  clear hcut hA hl2 hroom
  have OP := Lib.hid (H.out.shrink enc4_len HL.out (m := i) (by omega)).drew
  go_wp2_with fail
  go_region_law (refine step_cat_fits (bytes := 32) enc4_len enc4_one (Nat.succ_pos 3) rfl (.tmp 22) (.tmp 25) _ rfl Try.underlying68 info_packet rfl OP.out X.out.2.2.1 X.out.2.1 rfl X.out.1 X.out.2.2.2 ?_; intro w2 hown2 hg2)
  have hlen : (ps.take i ++ ps.drop (i + 1)).length = i + (n - (i + 1)) := by rw [List.length_append, List.length_take, List.length_drop, HL.out]; omega
  rw [← List.eraseIdx_eq_take_drop_succ] at hown2 hlen
  have en : i + (n - (i + 1)) = n - 1 := by omega
  rw [en] at hown2 hlen ⊢
  have HO := Lib.hid hown2
  have HG := Lib.hid hg2
  have HE := Lib.hid hlen
  obtain ⟨m, hm⟩ : ∃ m, n = m + 1 := ⟨n - 1, by omega⟩
  subst hm
  simp only [Nat.add_sub_cancel] at *
  clear hown2 hg2 hlen en X OP S0 hne k7
  obtain ⟨w3, hclr, hO3, hG3⟩ := run_clear_tail (P := Try.prog) (tr := 0) enc4_len Try.underlying68 info_packet rfl (by intro u hu; simp [Value.cells] at hu; subst hu; rfl) HO.out HE.out (m := 1) (c := cap - m) (by omega) (by omega)
  have HO3 := Lib.hid hO3
  have HG3 := Lib.hid hG3
  clear hO3 hG3
  have m1 : (m : Int) ≤ (m : Int) + 1 := by omega
  have m2 : ((m + 1 : Nat) : Int) = (m : Int) + 1 := by omega
  go_wp2
  all_goals
    go_ret
    first
      | exact ⟨by simp, HO3.out, grown_trans (only_drewL HG.out) HG3.out⟩
      | (have hc : cap = i + 1 := by assumption
         have h3 := HO3.out
         rw [hc] at h3
         exact ⟨by simp, h3, grown_trans (only_drewL HG.out) HG3.out⟩)
end Go.Proofs.Ytdfgogcefnamcaa
