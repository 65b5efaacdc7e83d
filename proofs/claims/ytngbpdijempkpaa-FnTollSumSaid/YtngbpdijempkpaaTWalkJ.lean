/- Contracts: TollEach of both. -/
import Derived.Test.YtngbpdijempkpaaTWalkH
import Derived.Test.YtngbpdijempkpaaTPlainE
set_option linter.unusedVariables false
namespace Go.Proofs.Ytngbpdijempkpaa
open Go.RowKit

theorem info_gate : (Try.prog.info? 31).map (fun i => (i.zero, i.size, i.bytes)) = some (some (.agg #[.int .i64 0, .int .i64 0, .int .i64 0]), 3, 24) := by kernel_rfl
/-- The least sums of the first k trusts. -/
def each (g : Int → T3) (free : Int) (ps : List Int) (k : Nat) : List Int := (List.range k).map fun (t : Nat) => least1 g free (flt g t ps) (-1)
theorem each_next {g : Int → T3} {free : Int} (ps : List Int) (k : Nat) : each g free ps (k + 1) = each g free ps k ++ [least1 g free (flt g k ps) (-1)] := by simp [each, List.range_succ]
theorem each_len {g : Int → T3} {free : Int} (ps : List Int) (k : Nat) : (each g free ps k).length = k := by simp [each]
/-- What TollEach returns. -/
def EachIs (xs : List T3) (free f t : Int) (ys : List Int) (b : Bool) : Prop :=
  (b = true ∧ TollOk xs free f t ∧ ys = each (gAt xs) free (idxIf (inW f t) xs) 4) ∨ (b = false ∧ ¬ TollOk xs free f t ∧ ys = [])

set_option maxRecDepth 20000 in
set_option maxHeartbeats 3200000 in
theorem implTollEach_any (A : Option Addr) (len cap : Nat) (xs : List T3) (free f t : Int) (ys : List Int) (bb : Bool) (w : World) (h : SlE 3 enc3 w A len xs) (hn : len ≤ 1048576) (hy : EachIs xs free f t ys bb) :
    Calls Try.prog 36 #[.slice A len cap, .int .i64 free, .int .i64 f, .int .i64 t] w (RetOwnB 1 encI 3 ys bb w) := by
  have H := Lib.hid h
  have HXL := Lib.hid h.len
  clear h
  rcases hy with ⟨rfl, hW, rfl⟩ | ⟨rfl, hW, rfl⟩
  · have HW := Lib.hid hW
    have HI := Lib.hid (way_idx (f := inW f t) hW.1.1 HXL.out)
    have hpl : (idxIf (inW f t) xs).length ≤ 10 := Nat.le_trans (idxIf_len (inW f t) xs) hW.1.1.1
    have HC := Lib.hid (fun (t' : Int) (ht : 0 ≤ t' ∧ t' < 4) (W : World) (hW2 : SlE 3 enc3 W A len xs) => cheapestOf_any A len cap xs free f t t' W hW2 hn hW ht)
    have HSM := Lib.hid (fun (k : Nat) => show sumC (gAt xs) (path (gAt xs) free (flt (gAt xs) k (idxIf (inW f t) xs))) = least1 (gAt xs) free (flt (gAt xs) k (idxIf (inW f t) xs)) (-1) by
      rw [← best1_start (h := flt (gAt xs) k (idxIf (inW f t) xs)) (fun i hi => (idxIf_asc (f := inW f t) hW.1.1).2 i (List.mem_filter.1 hi).1)]
      exact sum_best1 _ _)
    clear hW
    generalize idxIf (inW f t) xs = ps at *
    go_enter Try.func36, Try.ntmps36
    go_wp2_with fail
    refine (tollsValid_any A len cap xs free f t _ (H.out.alloc _) (by omega)).mono ?_
    intro e w1 hp
    obtain ⟨rfl, hb1⟩ := hp.yes HW.out
    have HB1 := Lib.hid (below_trans (below_alloc (Below.refl _ w) _) hb1)
    have HO1 := Lib.hid (OwnE.below (own_new (enc := encI) (k := 1) w 3 w.heap.size (Nat.le_refl _) encI_len [] #[] rfl (by simp) rfl) hb1 (Nat.le_refl _))
    clear hb1 hp
    go_wp2_with fail
    go_loopw [20, 10, 11] (fun i s _ wr => ∃ k : Nat, k ≤ 4 ∧ i = .int .i64 k ∧ OwnE 1 encI 3 w.heap.size wr s (each (gAt xs) free ps k) ∧ Below w.heap.size w wr) (fun i _ _ _ => 4 - (intOf i).toNat)
    case atStart => exact ⟨0, by omega, rfl, HO1.out, HB1.out⟩
    case round =>
      obtain ⟨k, hk, rfl, hown, hbr⟩ := hrel
      have HO := Lib.hid hown
      have HR := Lib.hid hbr
      clear hown hbr
      by_cases hlt : (k : Int) < 4
      · have HX := Lib.hid (each_next (g := gAt xs) (free := free) ps k)
        have HEL := Lib.hid (each_len (g := gAt xs) (free := free) ps k)
        have k0 : (0 : Int) ≤ (k : Int) := by omega
        have hp2 := (path_sub (g := gAt xs) (free := free) (flt (gAt xs) k ps)).length_le
        have hp3 : (flt (gAt xs) k ps).length ≤ ps.length := List.length_filter_le _ _
        have HIP := Lib.hid (idx_sub HI.out (fun x hx => (List.mem_filter.1 ((path_sub (g := gAt xs) (free := free) (flt (gAt xs) k ps)).subset hx)).1))
        have HSK := Lib.hid (HSM.out k)
        go_wp2_with fail
        refine (HC.out k ⟨k0, hlt⟩ _ (H.out.below HR.out)).mono ?_
        rintro e w2 ⟨v2, rfl, hown2, hb2⟩
        obtain ⟨A2, c2, rfl, hs2⟩ := hown2.sl encI_len
        have HS2 := Lib.hid hs2
        have HO2 := Lib.hid (HO.out.below hb2 (Nat.le_refl _))
        have HB2 := Lib.hid (below_trans HR.out hb2)
        have hsz := HB2.out.size
        clear hown2 hb2 hs2
        generalize path (gAt xs) free (flt (gAt xs) k ps) = pt at *
        generalize least1 (gAt xs) free (flt (gAt xs) k ps) (-1) = LK at *
        generalize hptl : pt.length = ptl at *
        clear hptl
        go_wp2_with fail
        refine (tollsOf_any _ A2 len cap ptl c2 xs pt w2 (H.out.below HB2.out) HS2.out (by omega) (by omega) HW.out.1.1 HIP.out).mono ?_
        rintro e w3 ⟨rfl, rfl⟩
        rw [HSK.out]
        go_wp2_with (at_builtin; refine wpList_push 1 8 3 encI encI_len encI_one (by omega) LK _ _ rfl rfl _ _ _ rfl Try.underlying35 info_int rfl w.heap.size _ _ rfl rfl rfl HO2.out (by rw [HEL.out]; omega) (by rw [HEL.out]; unfold maxLen; omega) hsz ?_; intro v' w' hown' hg'; have HO' := Lib.hid hown'; have HB' := Lib.hid (below_grown HB2.out hg' HO2.out (Nat.le_refl _)); clear hown' hg')
        go_roundw
        case rel => exact ⟨k + 1, by omega, by go_num, by rw [HX.out]; exact HO'.out, HB'.out⟩
        case measure => simp [intOf]; omega
      · have e : k = 4 := by omega
        subst e
        go_wp2
        go_ret2
        exact ⟨_, rfl, HO.out, HR.out⟩
  · have HW := Lib.hid hW
    clear hW
    go_enter Try.func36, Try.ntmps36
    go_wp2_with fail
    refine (tollsValid_any A len cap xs free f t _ (H.out.alloc _) (by omega)).mono ?_
    intro e w1 hp
    obtain ⟨rfl, hb1⟩ := hp.no HW.out
    have HB1 := Lib.hid (below_trans (below_alloc (Below.refl _ w) _) hb1)
    have HO1 := Lib.hid (OwnE.below (own_new (enc := encI) (k := 1) w 3 w.heap.size (Nat.le_refl _) encI_len [] #[] rfl (by simp) rfl) hb1 (Nat.le_refl _))
    clear hb1 hp
    go_wp2
    go_ret2
    exact ⟨_, rfl, HO1.out, HB1.out⟩

def isTr (k : Int) (p : T3) : Bool := decide (p.b = k)
theorem filt_next {k : Int} {xs : List T3} {j : Nat} {p : T3} (h : xs[j]? = some p) : (xs.take (j + 1)).filter (isTr k) = (xs.take j).filter (isTr k) ++ if p.b = k then [p] else [] := by
  rw [take_next h, List.filter_append]
  congr 1
  by_cases e : p.b = k <;> simp [isTr, e]
theorem filt_yes {k : Int} {xs : List T3} {j : Nat} {x y z : Int} (h : xs[j]? = some ⟨x, y, z⟩) (e : y = k) : (xs.take (j + 1)).filter (isTr k) = (xs.take j).filter (isTr k) ++ [⟨x, y, z⟩] := by rw [filt_next h, if_pos e]
theorem filt_no {k : Int} {xs : List T3} {j : Nat} {x y z : Int} (h : xs[j]? = some ⟨x, y, z⟩) (e : ¬ y = k) : (xs.take (j + 1)).filter (isTr k) = (xs.take j).filter (isTr k) := by rw [filt_next h, if_neg e, List.append_nil]

set_option maxRecDepth 20000 in
set_option maxHeartbeats 3200000 in
theorem specTollEach_any (A : Option Addr) (len cap : Nat) (xs : List T3) (free f t : Int) (ys : List Int) (bb : Bool) (w : World) (h : SlE 3 enc3 w A len xs) (hn : len ≤ 1048576) (hy : EachIs xs free f t ys bb) :
    Calls Try.prog 37 #[.slice A len cap, .int .i64 free, .int .i64 f, .int .i64 t] w (RetOwnB 1 encI 3 ys bb w) := by
  have H := Lib.hid h
  have HXL := Lib.hid h.len
  clear h
  rcases hy with ⟨rfl, hW, rfl⟩ | ⟨rfl, hW, rfl⟩
  · have HW := Lib.hid hW
    have HLE : Hid (∀ k : Int, LeastIs (xs.filter (isTr k)) free f t (least1 (gAt xs) free (flt (gAt xs) k (idxIf (inW f t) xs)) (-1))) := fun k => .inl ⟨⟨⟨gates_sub hW.1.1 List.filter_sublist, hW.1.2⟩, hW.2⟩, (own_least k).symm⟩
    clear hW
    generalize idxIf (inW f t) xs = ps at *
    go_enter Try.func37, Try.ntmps37
    go_wp2_with fail
    refine (l8Ok_any A len cap xs free f t _ (H.out.alloc _) (by omega)).mono ?_
    intro e w1 hp
    obtain ⟨rfl, hb1⟩ := hp.yes HW.out
    have HB1 := Lib.hid (below_trans (below_alloc (Below.refl _ w) _) hb1)
    have HO1 := Lib.hid (OwnE.below (own_new (enc := encI) (k := 1) w 3 w.heap.size (Nat.le_refl _) encI_len [] #[] rfl (by simp) rfl) hb1 (Nat.le_refl _))
    clear hb1 hp
    go_wp2_with fail
    go_loopw [10, 11, 12, 13] (fun s i _ _ wr => ∃ k : Nat, k ≤ 4 ∧ i = .int .i64 k ∧ OwnE 1 encI 3 w.heap.size wr s (each (gAt xs) free ps k) ∧ Below w.heap.size w wr) (fun _ i _ _ _ => 4 - (intOf i).toNat)
    case atStart => exact ⟨0, by omega, rfl, HO1.out, HB1.out⟩
    case round =>
      obtain ⟨k, hk, rfl, hown, hbr⟩ := hrel
      obtain ⟨W0, rfl⟩ : ∃ W0, W0 = wr := ⟨_, rfl⟩
      have HO := Lib.hid hown
      have HR := Lib.hid hbr
      clear hown hbr
      by_cases hlt : (k : Int) < 4
      · have HX := Lib.hid (each_next (g := gAt xs) (free := free) ps k)
        have HEL := Lib.hid (each_len (g := gAt xs) (free := free) ps k)
        go_wp2_with fail
        go_loopw [12, 13] (fun s i wz => ∃ j : Nat, j ≤ len ∧ i = .int .i64 j ∧ OwnE 3 enc3 31 W0.heap.size wz s ((xs.take j).filter (isTr k)) ∧ Below W0.heap.size W0 wz) (fun _ i _ => len - (intOf i).toNat)
        case atStart => exact ⟨0, by omega, rfl, own_new W0 _ _ (Nat.le_refl _) enc3_len [] #[] rfl (by simp) rfl, below_alloc (Below.refl _ _) _⟩
        case round =>
          obtain ⟨j, hj, rfl, hown, hbz⟩ := hrel
          have HG := Lib.hid hown
          have HZ := Lib.hid hbz
          have HZW := Lib.hid (below_trans HR.out hbz)
          have hsz := hbz.size
          have hfl : ((xs.take j).filter (isTr k)).length ≤ j := Nat.le_trans (List.length_filter_le _ _) (List.length_take_le _ _)
          clear hown hbz
          by_cases hjl : j < len
          · obtain ⟨b, off, x, y, z, rfl, hbl, hx, hd, h0, h1, h2⟩ := at3 H.out HZW.out hjl
            by_cases hin : y = (k : Int)
            · have HN := Lib.hid (filt_yes hx hin)
              subst hin
              clear hx hd
              go_wp2_with (at_builtin; refine wpList_push 3 24 31 enc3 enc3_len enc3_one (by omega) ⟨x, k, z⟩ _ _ rfl rfl _ _ _ rfl Try.underlying23 info_gate rfl W0.heap.size _ _ rfl rfl rfl HG.out (by omega) (by unfold maxLen; omega) hsz ?_; intro v' w' hown' hg'; have HO' := Lib.hid hown'; have HB' := Lib.hid (below_grown HZ.out hg' HG.out (Nat.le_refl _)); clear hown' hg')
              go_roundw
              case rel => exact ⟨j + 1, by omega, by go_num, by rw [HN.out]; exact HO'.out, HB'.out⟩
              case measure => simp [intOf]; omega
            · have HN := Lib.hid (filt_no hx hin)
              have h3' : (y == (k : Int)) = false := by simpa using hin
              clear hin hx hd
              go_wp2
              go_roundw
              case rel => exact ⟨j + 1, by omega, by go_num, by rw [HN.out]; exact HG.out, HZ.out⟩
              case measure => simp [intOf]; omega
          · have hx : xs.take j = xs := List.take_of_length_le (by rw [HXL.out]; omega)
            rw [hx] at HG hfl
            clear hx
            obtain ⟨A2, c2, rfl, hs2⟩ := HG.out.sl enc3_len
            have HS2 := Lib.hid hs2
            have HOz := Lib.hid (HO.out.below HZ.out (Nat.le_refl _))
            have HLK := Lib.hid (HLE.out k)
            clear hs2
            generalize (xs.filter (isTr k)).length = ol at *
            generalize least1 (gAt xs) free (flt (gAt xs) k ps) (-1) = LK at *
            go_wp2_with fail
            refine (specTollLeast_any A2 ol c2 _ free f t LK wr HS2.out (by omega) HLK.out).mono ?_
            rintro e w3 ⟨rfl, hb3⟩
            have HW3 := Lib.hid (below_trans HZW.out hb3)
            have HO3 := Lib.hid (HOz.out.below hb3 (Nat.le_refl _))
            have hsz3 := HW3.out.size
            clear hb3
            go_wp2_with (at_builtin; refine wpList_push 1 8 3 encI encI_len encI_one (by omega) LK _ _ rfl rfl _ _ _ rfl Try.underlying35 info_int rfl w.heap.size _ _ rfl rfl rfl HO3.out (by rw [HEL.out]; omega) (by rw [HEL.out]; unfold maxLen; omega) hsz3 ?_; intro v' w' hown' hg'; have HO' := Lib.hid hown'; have HB' := Lib.hid (below_grown HW3.out hg' HO3.out (Nat.le_refl _)); clear hown' hg')
            go_roundw
            case rel => exact ⟨k + 1, by omega, by go_num, by rw [HX.out]; exact HO'.out, HB'.out⟩
            case measure => simp [intOf]; omega
      · have e : k = 4 := by omega
        subst e
        go_wp2
        go_ret2
        exact ⟨_, rfl, HO.out, HR.out⟩
  · have HW := Lib.hid hW
    clear hW
    go_enter Try.func37, Try.ntmps37
    go_wp2_with fail
    refine (l8Ok_any A len cap xs free f t _ (H.out.alloc _) (by omega)).mono ?_
    intro e w1 hp
    obtain ⟨rfl, hb1⟩ := hp.no HW.out
    have HB1 := Lib.hid (below_trans (below_alloc (Below.refl _ w) _) hb1)
    have HO1 := Lib.hid (OwnE.below (own_new (enc := encI) (k := 1) w 3 w.heap.size (Nat.le_refl _) encI_len [] #[] rfl (by simp) rfl) hb1 (Nat.le_refl _))
    clear hb1 hp
    go_wp2
    go_ret2
    exact ⟨_, rfl, HO1.out, HB1.out⟩

theorem teach_both (free f t : Int) (xs : List T3) : ∃ (ys : List Int) (b : Bool), ys.length ≤ 2097152 ∧
    (∀ (A : Option Addr) (len c : Nat) (w : World), SlE 3 enc3 w A len xs → len ≤ 1048576 → len ≤ c → Calls Try.prog 37 #[.slice A len c, .int .i64 free, .int .i64 f, .int .i64 t] w (RetOwnB 1 encI 3 ys b w)) ∧
    (∀ (A : Option Addr) (len c : Nat) (w : World), SlE 3 enc3 w A len xs → len ≤ 1048576 → len ≤ c → Calls Try.prog 36 #[.slice A len c, .int .i64 free, .int .i64 f, .int .i64 t] w (RetOwnB 1 encI 3 ys b w)) := by
  by_cases hW : TollOk xs free f t
  · exact ⟨_, true, by rw [each_len]; omega, fun A len c w h hl _ => specTollEach_any A len c xs free f t _ _ w h hl (.inl ⟨rfl, hW, rfl⟩), fun A len c w h hl _ => implTollEach_any A len c xs free f t _ _ w h hl (.inl ⟨rfl, hW, rfl⟩)⟩
  · exact ⟨[], false, by simp, fun A len c w h hl _ => specTollEach_any A len c xs free f t _ _ w h hl (.inr ⟨rfl, hW, rfl⟩), fun A len c w h hl _ => implTollEach_any A len c xs free f t _ _ w h hl (.inr ⟨rfl, hW, rfl⟩)⟩
end Go.Proofs.Ytngbpdijempkpaa
