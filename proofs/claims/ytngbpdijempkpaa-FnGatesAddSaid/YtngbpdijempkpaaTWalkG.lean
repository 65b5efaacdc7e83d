/- Contracts: TollBest and TollLeast of the program. -/
import Derived.Test.YtngbpdijempkpaaTWalkF
import Derived.Test.YtngbpdijempkpaaTPlainD
import Derived.Test.YtngbpdijempkpaaSortI
import Derived.Test.YtngbpdijempkpaaCat
set_option linter.unusedVariables false
namespace Go.Proofs.Ytngbpdijempkpaa
open Go.RowKit

set_option maxRecDepth 20000 in
set_option maxHeartbeats 800000 in
theorem sortNil_any (w : World) : Calls Try.prog 68 #[.slice none 0 0] w (Same (.tuple #[]) w) := by
  have hi : ∀ W, Calls Try.prog 76 #[.slice none 0 0, .int .i64 0, .int .i64 0] W (Same (.tuple #[]) W) := by
    intro W
    go_enter Try.func76, Try.ntmps76
    go_wp2_with fail
    go_loop [6] (fun i => i = .int .i64 1) (fun _ => 0)
    case atStart => rfl
    case round =>
      obtain rfl := hrel
      go_wp2
      go_end0
      exact ⟨rfl, rfl⟩
  have HI := Lib.hid hi
  clear hi
  have hp : ∀ lim W, Calls Try.prog 74 #[.slice none 0 0, .int .i64 0, .int .i64 0, .int .i64 lim] W (Same (.tuple #[]) W) := by
    intro lim W
    go_enter Try.func74, Try.ntmps74
    go_wp2_with fail
    go_loopw [1, 2, 3] (fun a b d wr => a = .int .i64 0 ∧ b = .int .i64 0 ∧ d = .int .i64 lim ∧ W = wr) (fun _ _ _ _ => 0)
    case atStart => exact ⟨rfl, rfl, rfl, rfl⟩
    case round =>
      obtain ⟨rfl, rfl, rfl, rfl⟩ := hrel
      go_wp2_with (go_at_call 76; refine (HI.out _).mono ?_; rintro e w2 ⟨rfl, rfl⟩)
      go_end0
      exact ⟨rfl, rfl⟩
  have HP := Lib.hid hp
  clear hp
  go_enter Try.func68, Try.ntmps68
  go_wp2_with fail
  refine (bitsLen_any 0 w (by omega)).mono ?_
  rintro e w2 ⟨r, rfl, rfl⟩
  go_wp2_with fail
  refine (HP.out r _).mono ?_
  rintro e w2 ⟨rfl, rfl⟩
  go_wp2
  go_end0
  exact ⟨rfl, rfl⟩
/-- A slice that the call owns, whatever its form, sorted. -/
theorem sortOwn_any (base : Nat) (v : Value) (l : List Int) (w : World) (h : OwnE 1 encI 3 base w v l) (hn : l.length ≤ 12) :
    Calls Try.prog 68 #[v] w fun e w' => e = .returned (.tuple #[]) ∧ OwnE 1 encI 3 base w' v (isort ltI l) ∧ w.grownBy w' v.ownBlock := by
  rcases h.2 with ⟨rfl, h0⟩ | ⟨g, cap, cur, rfl, _⟩
  · have e : l = [] := List.eq_nil_of_length_eq_zero h0
    subst e
    exact (sortNil_any w).mono fun e w' ⟨he, hw⟩ => ⟨he, hw ▸ h, hw ▸ World.grownBy.refl _ _⟩
  · refine (sortI_any base g l.length cap l w h rfl hn).mono fun e w' ⟨he, ho, hg⟩ => ⟨he, ?_, hg⟩
    unfold OwnE at ho ⊢
    rw [isort_len] at ho ⊢
    exact ho

set_option maxRecDepth 20000 in
set_option maxHeartbeats 3200000 in
theorem implTollBest_any (A : Option Addr) (len cap : Nat) (xs : List T3) (free f t : Int) (ys : List Int) (bb : Bool) (w : World) (h : SlE 3 enc3 w A len xs) (hn : len ≤ 1048576) (hy : BestIs xs (TollOk xs free f t) f t free ys bb) :
    Calls Try.prog 40 #[.slice A len cap, .int .i64 free, .int .i64 f, .int .i64 t] w (RetOwnB 1 encI 3 ys bb w) := by
  have H := Lib.hid h
  have HXL := Lib.hid h.len
  clear h
  rcases hy with ⟨rfl, hW, rfl⟩ | ⟨rfl, hW, rfl⟩
  · have HW := Lib.hid hW
    have HA := Lib.hid (idxIf_asc (f := inW f t) hW.1.1)
    have HTR := Lib.hid (way_trust (f := inW f t) hW.1.1)
    have hpl : (idxIf (inW f t) xs).length ≤ 10 := Nat.le_trans (idxIf_len (inW f t) xs) hW.1.1.1
    clear hW
    have HC := Lib.hid (fun (t' : Int) (ht : 0 ≤ t' ∧ t' < 4) (W : World) (hW : SlE 3 enc3 W A len xs) => cheapestOf_any A len cap xs free f t t' W hW hn HW.out ht)
    generalize idxIf (inW f t) xs = ps at *
    go_enter Try.func40, Try.ntmps40
    go_wp2_with fail
    refine (tollsValid_any A len cap xs free f t _ (H.out.alloc _) (by omega)).mono ?_
    intro e w1 hp
    obtain ⟨rfl, hb1⟩ := hp.yes HW.out
    have HB1 := Lib.hid (below_trans (below_alloc (Below.refl _ w) _) hb1)
    have HO1 := Lib.hid (OwnE.below (own_new (enc := encI) (k := 1) w 3 w.heap.size (Nat.le_refl _) encI_len [] #[] rfl (by simp) rfl) hb1 (Nat.le_refl _))
    clear hb1 hp
    go_wp2_with fail
    go_loopw [20, 10, 11] (fun i s _ wr => ∃ k : Nat, k ≤ 4 ∧ i = .int .i64 k ∧ OwnE 1 encI 3 w.heap.size wr s (catT (gAt xs) free ps k) ∧ Below w.heap.size w wr) (fun i _ _ _ => 4 - (intOf i).toNat)
    case atStart => exact ⟨0, by omega, rfl, HO1.out, HB1.out⟩
    case round =>
      obtain ⟨k, hk, rfl, hown, hbr⟩ := hrel
      have HO := Lib.hid hown
      have HR := Lib.hid hbr
      clear hown hbr
      by_cases hlt : (k : Int) < 4
      · have hc := catT_len (g := gAt xs) (free := free) ps k
        have hp2 := (path_sub (g := gAt xs) (free := free) (flt (gAt xs) k ps)).length_le
        have hp3 : (flt (gAt xs) k ps).length ≤ ps.length := List.length_filter_le _ _
        have hc4 : (catT (gAt xs) free ps k).length ≤ 40 := by
          have : k * ps.length ≤ 4 * ps.length := Nat.mul_le_mul_right _ (by omega)
          omega
        have hc5 : (path (gAt xs) free (flt (gAt xs) k ps)).length ≤ 10 := by omega
        have HX := Lib.hid (show catT (gAt xs) free ps (k + 1) = catT (gAt xs) free ps k ++ path (gAt xs) free (flt (gAt xs) k ps) from rfl)
        clear hc hp2 hp3
        have k0 : (0 : Int) ≤ (k : Int) := by omega
        go_wp2_with fail
        refine (HC.out k ⟨k0, hlt⟩ _ (H.out.below HR.out)).mono ?_
        rintro e w2 ⟨v2, rfl, hown2, hb2⟩
        obtain ⟨A2, c2, rfl, hs2⟩ := hown2.sl encI_len
        have HS2 := Lib.hid hs2
        have HO2 := Lib.hid (HO.out.below hb2 (Nat.le_refl _))
        have HB2 := Lib.hid (below_trans HR.out hb2)
        have hsz := HB2.out.size
        clear hown2 hb2 hs2
        generalize catT (gAt xs) free ps k = ct at *
        generalize path (gAt xs) free (flt (gAt xs) k ps) = pt at *
        generalize hptl : pt.length = ptl at *
        clear hptl
        go_wp2_with (at_builtin; refine wpList_cat (bytes := 8) encI_len encI_one (by omega) rfl _ _ _ rfl Try.underlying35 info_int rfl _ ct rfl HO2.out rfl HS2.out (by omega) (by unfold maxLen; omega) hsz ?_; intro v' w' hown' hg'; have HO' := Lib.hid hown'; have HB' := Lib.hid (below_grown HB2.out hg' HO2.out (Nat.le_refl _)); clear hown' hg')
        go_roundw
        case rel => exact ⟨k + 1, by omega, by go_num, by rw [HX.out]; exact HO'.out, HB'.out⟩
        case measure => simp [intOf]; omega
      · have e : k = 4 := by omega
        subst e
        have hl4 := catT_len4 (free := free) HA.out HTR.out
        have HE := Lib.hid (best_sorted (free := free) HA.out HTR.out)
        go_wp2_with fail
        refine (sortOwn_any _ _ _ _ HO.out (by omega)).mono ?_
        rintro e w2 ⟨rfl, ho, hg⟩
        rw [HE.out] at ho
        have HO2 := Lib.hid ho
        have HB2 := Lib.hid (below_grown HR.out hg HO.out (Nat.le_refl _))
        clear ho hg
        go_wp2
        go_ret2
        exact ⟨_, rfl, HO2.out, HB2.out⟩
  · have HW := Lib.hid hW
    clear hW
    go_enter Try.func40, Try.ntmps40
    go_wp2_with fail
    refine (tollsValid_any A len cap xs free f t _ (H.out.alloc _) (by omega)).mono ?_
    intro e w1 hp
    obtain ⟨rfl, hb1⟩ := hp.no HW.out
    have HB1 := Lib.hid (below_trans (below_alloc (Below.refl _ w) _) hb1)
    have HO1 := Lib.hid (OwnE.below (own_new (enc := encI) (k := 1) w 3 w.heap.size (Nat.le_refl _) encI_len [] #[] rfl (by simp) rfl) hb1 (Nat.le_refl _))
    clear hb1 hp
    go_wp2
    go_ret2
    exact ⟨_, rfl, HO1.out, HB1.out⟩

/-- What TollLeast returns. -/
def LeastIs (xs : List T3) (free f t r : Int) : Prop := (TollOk xs free f t ∧ r = least (gAt xs) free (idxIf (inW f t) xs) (fun _ => -1)) ∨ (¬ TollOk xs free f t ∧ r = -1)
set_option maxRecDepth 20000 in
set_option maxHeartbeats 1600000 in
theorem implTollLeast_any (A : Option Addr) (len cap : Nat) (xs : List T3) (free f t r : Int) (w : World) (h : SlE 3 enc3 w A len xs) (hn : len ≤ 1048576) (hr : LeastIs xs free f t r) :
    Calls Try.prog 29 #[.slice A len cap, .int .i64 free, .int .i64 f, .int .i64 t] w (Only (.int .i64 r) w) := by
  have H := Lib.hid h
  have HXL := Lib.hid h.len
  clear h
  rcases hr with ⟨hW, rfl⟩ | ⟨hW, rfl⟩
  · have HW := Lib.hid hW
    have HI := Lib.hid (idx_sub (way_idx (f := inW f t) hW.1.1 HXL.out) (fun x hx => (best_sub (g := gAt xs) (free := free) (idxIf (inW f t) xs) (fun _ => -1)).subset hx))
    have HB := Lib.hid (fun W hW2 => implTollBest_any A len cap xs free f t _ true W hW2 hn (.inl ⟨rfl, hW, rfl⟩))
    have HS := Lib.hid (sum_best (g := gAt xs) (free := free) (idxIf (inW f t) xs) (fun _ => -1))
    have hbl : (best (gAt xs) free (idxIf (inW f t) xs) (fun _ => -1)).length ≤ 10 := Nat.le_trans (best_len _ _) (Nat.le_trans (idxIf_len (inW f t) xs) hW.1.1.1)
    clear hW
    generalize least (gAt xs) free (idxIf (inW f t) xs) (fun _ => -1) = R at *
    generalize best (gAt xs) free (idxIf (inW f t) xs) (fun _ => -1) = bs at *
    go_enter Try.func29, Try.ntmps29
    go_wp2_with fail
    refine (HB.out w H.out).mono ?_
    rintro e w2 ⟨v, rfl, hown, hb2⟩
    obtain ⟨A2, c2, rfl, hs2⟩ := hown.sl encI_len
    have HS2 := Lib.hid hs2
    have HB2 := Lib.hid hb2
    clear hown hb2 hs2
    generalize bs.length = bl at *
    go_wp2_with fail
    refine (tollsOf_any A A2 len cap bl c2 xs bs w2 (H.out.below HB2.out) HS2.out (by omega) (by omega) HW.out.1.1 HI.out).mono ?_
    rintro e w3 ⟨rfl, rfl⟩
    go_wp2
    go_ret
    exact ⟨ret_int HS.out, HB2.out⟩
  · have HB := Lib.hid (fun W hW2 => implTollBest_any A len cap xs free f t _ false W hW2 hn (.inr ⟨rfl, hW, rfl⟩))
    clear hW
    go_enter Try.func29, Try.ntmps29
    go_wp2_with fail
    refine (HB.out w H.out).mono ?_
    rintro e w2 ⟨v, rfl, hown, hb2⟩
    have HB2 := Lib.hid hb2
    clear hown hb2
    go_wp2
    go_ret
    exact ⟨rfl, HB2.out⟩
end Go.Proofs.Ytngbpdijempkpaa
