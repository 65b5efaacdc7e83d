/- Contracts: GatesTrust of the program. -/
import Derived.Test.YtngbpdijempkpaaGTests
import Derived.Test.YtngbpdijempkpaaPushAt
set_option linter.unusedVariables false
namespace Go.Proofs.Ytngbpdijempkpaa
open Go.RowKit

def isT (t : Int) (p : T3) : Bool := decide (p.b = t)
theorem isT_yes {t x y z : Int} (h : y = t) : isT t ⟨x, y, z⟩ = true := by simp [isT, h]
theorem isT_no {t x y z : Int} (h : ¬ y = t) : isT t ⟨x, y, z⟩ = false := by simpa [isT] using h

theorem isT_none {xs : List T3} {t : Int} (h : GatesOk xs) (ht : ¬ (0 ≤ t ∧ t < 4)) : idxIf (isT t) xs = [] := by
  have key : ∀ (ys : List T3) (b : Nat), (∀ p ∈ ys, 0 ≤ p.b ∧ p.b ≤ 3) → idxFrom (isT t) b ys = [] := by
    intro ys
    induction ys with
    | nil => intro b _; rfl
    | cons p ys ih =>
      intro b hp
      have h1 := hp p (List.mem_cons_self ..)
      have h2 : isT t p = false := by simp only [isT, decide_eq_false_iff_not]; omega
      simp only [idxFrom, h2, Bool.false_eq_true, if_false]
      exact ih _ (fun q hq => hp q (List.mem_cons_of_mem _ hq))
  refine key xs 0 (fun p hp => ?_)
  obtain ⟨i, hi⟩ := List.getElem?_of_mem hp
  have := h.2 i p hi
  unfold GOk at this
  omega
/-- The slice's row is not the block g. -/
def Apart (v : Value) (g : Nat) : Prop := v.ownBlock ≠ some g
def CellIs (w : World) (g : Nat) (t : Int) : Prop := w.cell? ⟨g, 0, none⟩ = some (.int .i64 t)
theorem below_own {α : Type} {k ty base : Nat} {enc : α → List Value} {w : World} {v : Value} {xs : List α} {B : Nat} (h : OwnE k enc ty base w v xs) {j : Nat} (hj : v.ownBlock = some j) : base ≤ j := (h.lt j hj).1

set_option maxRecDepth 20000 in
set_option maxHeartbeats 1600000 in
theorem implGatesTrust_any (A : Option Addr) (len cap : Nat) (xs : List T3) (t : Int) (ys : List Int) (w : World) (hwf : (Lit.int .i64 t).wf = true) (h : SlE 3 enc3 w A len xs) (hn : len ≤ 1048576) (hy : (GatesOk xs ∧ ys = idxIf (isT t) xs) ∨ (¬ GatesOk xs ∧ ys = [])) :
    Calls Try.prog 34 #[.slice A len cap, .int .i64 t] w (RetOwn 1 encI 3 ys w) := by
  have H := Lib.hid h
  have HXL := Lib.hid h.len
  clear h
  by_cases ht : 0 ≤ t ∧ t < 4
  · rcases hy with ⟨hW, rfl⟩ | ⟨hW, rfl⟩
    all_goals
      have HW := Lib.hid hW
      clear hW
      go_enter Try.func34, Try.ntmps34
      go_wp2_with fail
      refine (trustTests_any _).mono ?_
      rintro e w1 ⟨b, D, rfl, hown, hT, hbb, hb1⟩
      have HB1 := Lib.hid (below_trans (below_alloc (Below.refl _ w) _) hb1)
      have HO1 := Lib.hid (OwnE.below (own_new (enc := encI) (k := 1) w 3 w.heap.size (Nat.le_refl _) encI_len [] #[] rfl (by simp) rfl) hb1 (Nat.le_refl _))
      have HM := Lib.hid hown
      have HT := Lib.hid hT
      clear hown hT hb1
      go_wp2_with (at_lookup; refine wpList_test_yes rfl _ _ rfl b D rfl HM.out HT.out t rfl ht ?_; intro g hbg hg hc; have HC := Lib.hid hc; clear hc)
    · refine (implGatesValid_any A len cap xs _ (H.out.below HB1.out) (by omega)).mono ?_
      intro e w2 hp
      obtain ⟨rfl, hb2⟩ := hp.yes HW.out
      have HB2 := Lib.hid (below_trans HB1.out hb2)
      have HO2 := Lib.hid (HO1.out.below hb2 (Nat.le_refl _))
      have HC2 := Lib.hid ((hb2.cell (p := ⟨g, 0, none⟩) hg).trans HC.out)
      have hg2 := Nat.lt_of_lt_of_le hg hb2.size
      have HAP : Hid (Apart (.slice (some ⟨w.heap.size, 0, none⟩) 0 0) g) := fun e => by injection e with e; simp at hbb e; omega
      clear hb2 hp
      go_wp2_with fail
      go_loopw [27, 5, 8, 9] (fun i s _ _ wr => ∃ k : Nat, k ≤ len ∧ i = .int .i64 k ∧ OwnE 1 encI 3 w.heap.size wr s (idxIf (isT t) (xs.take k)) ∧ Apart s g ∧ g < wr.heap.size ∧ CellIs wr g t ∧ Below w.heap.size w wr) (fun i _ _ _ _ => len - (intOf i).toNat)
      case atStart => exact ⟨0, by omega, rfl, HO2.out, HAP.out, hg2, HC2.out, HB2.out⟩
      case round =>
        obtain ⟨k, hk, rfl, hown, hap, hgl, hce, hbr⟩ := hrel
        have HO := Lib.hid hown
        have HR := Lib.hid hbr
        have HAP := Lib.hid hap
        have HCE := Lib.hid hce
        have hsz := hbr.size
        clear hown hbr hap hce
        by_cases hlt : k < len
        · obtain ⟨b', off, x, y, z, rfl, hbl, hx, hd, h0, h1, h2⟩ := at3 H.out HR.out hlt
          have HX := Lib.hid (idxIf_next (f := isT t) hx)
          have hlen : (idxIf (isT t) (xs.take k)).length ≤ k := Nat.le_trans (idxIf_len _ _) (List.length_take_le _ _)
          clear hx hd
          have hbA : Below wr.heap.size wr (wr.alloc (.cells #[.int .i64 x, .int .i64 y, .int .i64 z] 31)) := (Below.refl _ _).alloc (Nat.le_refl _) _
          have HCC := Lib.hid (test_any x y z t g _ ((hbA.cell (p := ⟨g, 0, none⟩) hgl).trans HCE.out) (by simp; omega))
          have HBA := Lib.hid hbA
          clear hbA
          by_cases hin : y = t
          · rw [isT_yes hin] at HX
            have HIN := Lib.hid hin
            clear hin
            go_wp2_with fail
            refine HCC.out.mono ?_
            intro e w3 hp
            obtain ⟨rfl, hb3⟩ := hp.yes HIN.out
            have HB3 := Lib.hid (below_trans HBA.out hb3)
            have HR3 := Lib.hid (below_trans HR.out HB3.out)
            have HO3 := Lib.hid ((HO.out.alloc _).below hb3 (Nat.le_refl _))
            have hsz3 := HR3.out.size
            have hsz4 := HB3.out.size
            have HCE3 := Lib.hid ((HB3.out.cell (p := ⟨g, 0, none⟩) hgl).trans HCE.out)
            clear hp hb3
            go_wp2_with (at_builtin; refine wpList_push_at 1 8 3 encI encI_len encI_one (by omega) (k : Int) _ _ rfl rfl _ _ _ rfl Try.underlying35 info_int rfl w.heap.size _ _ rfl rfl (by simp) HO3.out (by omega) (by unfold maxLen; omega) hsz3 ?_; intro v' w' hown' hg' hl'; have HO' := Lib.hid hown'; have HB' := Lib.hid (below_grown HR3.out hg' HO3.out (Nat.le_refl _)); have HG' := Lib.hid hg'; have HL' := Lib.hid hl'; clear hown' hg' hl')
            have hsz5 := HG'.out.size
            go_roundw
            case rel => exact ⟨k + 1, by omega, by go_num, by rw [HX.out]; exact HO'.out, away_next HAP.out HL'.out (by omega), by omega, (grown_cell HG'.out (by omega) HAP.out).trans HCE3.out, HB'.out⟩
            case measure => simp [intOf]; omega
          · have HX := Lib.hid (idxIf_no (isT_no hin) HX.out)
            have HIN := Lib.hid hin
            clear hin
            go_wp2_with fail
            refine HCC.out.mono ?_
            intro e w3 hp
            obtain ⟨rfl, hb3⟩ := hp.no HIN.out
            have HB3 := Lib.hid (below_trans HBA.out hb3)
            have HR3 := Lib.hid (below_trans HR.out HB3.out)
            have HO3 := Lib.hid ((HO.out.alloc _).below hb3 (Nat.le_refl _))
            have hsz4 := HB3.out.size
            have HCE3 := Lib.hid ((HB3.out.cell (p := ⟨g, 0, none⟩) hgl).trans HCE.out)
            clear hp hb3
            go_wp2
            go_roundw
            case rel => exact ⟨k + 1, by omega, by go_num, by rw [HX.out]; exact HO3.out, HAP.out, by omega, HCE3.out, HR3.out⟩
            case measure => simp [intOf]; omega
        · have hx : xs.take k = xs := List.take_of_length_le (by have := HXL.out; omega)
          rw [hx] at HO
          clear hx
          go_wp2
          go_ret
          exact ⟨_, rfl, HO.out, HR.out⟩
    · refine (implGatesValid_any A len cap xs _ (H.out.below HB1.out) (by omega)).mono ?_
      intro e w2 hp
      obtain ⟨rfl, hb2⟩ := hp.no HW.out
      have HB2 := Lib.hid (below_trans HB1.out hb2)
      have HO2 := Lib.hid (HO1.out.below hb2 (Nat.le_refl _))
      clear hb2 hp
      go_wp2
      go_ret
      exact ⟨_, rfl, HO2.out, HB2.out⟩
  · have e : ys = [] := by
      rcases hy with ⟨hW, rfl⟩ | ⟨_, rfl⟩
      · exact isT_none hW ht
      · rfl
    subst e
    have HTN := Lib.hid (show t < 0 ∨ 4 ≤ t by omega)
    have HWF := Lib.hid hwf
    clear hwf hy
    go_enter Try.func34, Try.ntmps34
    go_wp2_with fail
    refine (trustTests_any _).mono ?_
    rintro e w1 ⟨b, D, rfl, hown, hT, hbb, hb1⟩
    have HB1 := Lib.hid (below_trans (below_alloc (Below.refl _ w) _) hb1)
    have HO1 := Lib.hid (OwnE.below (own_new (enc := encI) (k := 1) w 3 w.heap.size (Nat.le_refl _) encI_len [] #[] rfl (by simp) rfl) hb1 (Nat.le_refl _))
    have HM := Lib.hid hown
    have HT := Lib.hid hT
    clear hown hT hb1
    go_wp2_with (at_lookup; refine wpList_test_no rfl _ _ rfl b D rfl HM.out HT.out t rfl HWF.out HTN.out ?_; intro v)
    go_ret
    exact ⟨_, rfl, HO1.out, HB1.out⟩
end Go.Proofs.Ytngbpdijempkpaa
