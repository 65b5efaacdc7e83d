/- Contracts: l8Way, mileValid, GatesPassed of both. -/
import Derived.Test.YtngbpdijempkpaaGWalkA
import Derived.Test.YtngbpdijempkpaaOwn
set_option linter.unusedVariables false
namespace Go.Proofs.Ytngbpdijempkpaa
open Go.RowKit

theorem info_int : (Try.prog.info? 3).map (fun i => (i.zero, i.size, i.bytes)) = some (some (.int .i64 0), 1, 8) := by kernel_rfl

set_option maxHeartbeats 400000 in
theorem mileValid_any (m : Int) (w : World) :
    Calls Try.prog 60 #[.int .i64 m] w (SameB (0 ≤ m ∧ m ≤ 1000) w) := by
  go_enter Try.func60, Try.ntmps60
  go_wp2
  all_goals
    go_ret
    exact ⟨_, rfl, by simp <;> omega, rfl⟩

set_option maxHeartbeats 800000 in
theorem l8Way_any (A : Option Addr) (len cap : Nat) (xs : List T3) (f t : Int) (w : World) (h : SlE 3 enc3 w A len xs) (hn : len ≤ 16777216) :
    Calls Try.prog 71 #[.slice A len cap, .int .i64 f, .int .i64 t] w (OnlyB (WayOk xs f t) w) := by
  have H := Lib.hid h
  clear h
  have HW : Hid (WayOk xs f t ↔ GatesOk xs ∧ (0 ≤ f ∧ f ≤ 1000) ∧ (0 ≤ t ∧ t ≤ 1000)) := Iff.rfl
  go_enter Try.func71, Try.ntmps71
  go_wp2_with fail
  refine (specGatesValid_any A len cap xs w H.out hn).mono ?_
  intro e w1 hp
  rcases hp.cases with ⟨rfl, hg, hb1⟩ | ⟨rfl, hg, hb1⟩
  · have HB1 := Lib.hid hb1
    have HG := Lib.hid hg
    clear hb1 hp hg
    go_wp2_with (go_at_call 51; refine (l6In_any _ _ _ _).mono ?_; intro e w2 hp; rcases hp.cases with ⟨rfl, hp, rfl⟩ | ⟨rfl, hp, rfl⟩)
    all_goals first
      | (go_ret; exact onlyB_false (fun h => by have := HW.out.1 h; omega) HB1.out)
      | (go_ret; exact onlyB_true (HW.out.2 ⟨HG.out, by omega, by omega⟩) HB1.out)
  · have HB1 := Lib.hid hb1
    have HG := Lib.hid hg
    clear hb1 hp hg
    go_wp2
    go_ret
    exact onlyB_false (fun h => HG.out (HW.out.1 h).1) HB1.out

theorem idxIf_no {f : T3 → Bool} {p : T3} {k : Int} {a b : List Int} (h : f p = false) (e : a = b ++ if f p then [k] else []) : a = b := by rw [h] at e; simpa using e
theorem inW_yes {f t : Int} {x y z : Int} (h : f ≤ x ∧ x < t) : inW f t ⟨x, y, z⟩ = true := by simp [inW, h]
theorem inW_no {f t : Int} {x y z : Int} (h : ¬ (f ≤ x ∧ x < t)) : inW f t ⟨x, y, z⟩ = false := by simpa [inW] using h

set_option maxHeartbeats 1600000 in
theorem specGatesPassed_any (A : Option Addr) (len cap : Nat) (xs : List T3) (f t : Int) (ys : List Int) (w : World) (h : SlE 3 enc3 w A len xs) (hn : len ≤ 1048576) (hy : (WayOk xs f t ∧ ys = idxIf (inW f t) xs) ∨ (¬ WayOk xs f t ∧ ys = [])) :
    Calls Try.prog 58 #[.slice A len cap, .int .i64 f, .int .i64 t] w (RetOwn 1 encI 3 ys w) := by
  have H := Lib.hid h
  have HXL := Lib.hid h.len
  clear h
  rcases hy with ⟨hW, rfl⟩ | ⟨hW, rfl⟩
  · have HW := Lib.hid hW
    clear hW
    go_enter Try.func58, Try.ntmps58
    go_wp2
    go_loopw [7, 8] (fun s i wr => ∃ k : Nat, k ≤ len ∧ i = .int .i64 k ∧ OwnE 1 encI 3 w.heap.size wr s (idxIf (inW f t) (xs.take k)) ∧ Below w.heap.size w wr) (fun _ i _ => len - (intOf i).toNat)
    case atStart => exact ⟨0, by omega, rfl, own_new w _ _ (Nat.le_refl _) encI_len [] #[] rfl (by simp) rfl, below_alloc (Below.refl _ _) _⟩
    case round =>
      obtain ⟨k, hk, rfl, hown, hbr⟩ := hrel
      have HO := Lib.hid hown
      have HR := Lib.hid hbr
      clear hown hbr
      by_cases hlt : k < len
      · go_wp2_with fail
        refine (l8Way_any A len cap xs f t _ (H.out.below HR.out) (by omega)).mono ?_
        intro e w2 hp
        obtain ⟨rfl, hb2⟩ := hp.yes HW.out
        have HB2 := Lib.hid (below_trans HR.out hb2)
        have HO2 := Lib.hid (HO.out.below hb2 (Nat.le_refl _))
        clear hb2 hp
        obtain ⟨b, off, x, y, z, rfl, hbl, hx, hd, h0, h1, h2⟩ := at3 H.out HB2.out hlt
        have HX := Lib.hid (idxIf_next (f := inW f t) hx)
        have hlen : (idxIf (inW f t) (xs.take k)).length ≤ k := Nat.le_trans (idxIf_len _ _) (List.length_take_le _ _)
        have hsz := HB2.out.size
        clear hx hd h1 h2
        by_cases hin : f ≤ x ∧ x < t
        · rw [inW_yes hin] at HX
          go_wp2_with (at_builtin; refine wpList_push 1 8 3 encI encI_len encI_one (by omega) (k : Int) _ _ rfl rfl _ _ _ rfl Try.underlying35 info_int rfl w.heap.size _ _ rfl rfl (by simp) HO2.out (by omega) (by unfold maxLen; omega) hsz ?_; intro v' w' hown' hg'; have HO' := Lib.hid hown'; have HB' := Lib.hid (below_grown HB2.out hg' HO2.out (Nat.le_refl _)); clear hown' hg')
          go_roundw
          case rel => exact ⟨k + 1, by omega, by go_num, by rw [HX.out]; exact HO'.out, HB'.out⟩
          case measure => simp [intOf]; omega
        · have HX := Lib.hid (idxIf_no (inW_no hin) HX.out)
          rcases (show ¬ f ≤ x ∨ (f ≤ x ∧ ¬ x < t) by omega) with hin1 | ⟨hin1, hin2⟩
          all_goals
            clear hin
            go_wp2
            go_roundw
            case rel => exact ⟨k + 1, by omega, by go_num, by rw [HX.out]; exact HO2.out, HB2.out⟩
            case measure => simp [intOf]; omega
      · have hx : xs.take k = xs := List.take_of_length_le (by have := HXL.out; omega)
        rw [hx] at HO
        clear hx
        go_wp2
        go_ret
        exact ⟨_, rfl, HO.out, HR.out⟩
  · have HW := Lib.hid hW
    clear hW
    go_enter Try.func58, Try.ntmps58
    go_wp2
    go_loopw [7, 8] (fun s i wr => i = .int .i64 0 ∧ OwnE 1 encI 3 w.heap.size wr s [] ∧ Below w.heap.size w wr) (fun _ i _ => (intOf i).toNat)
    case atStart => exact ⟨rfl, own_new w _ _ (Nat.le_refl _) encI_len [] #[] rfl (by simp) rfl, below_alloc (Below.refl _ _) _⟩
    case round =>
      obtain ⟨rfl, hown, hbr⟩ := hrel
      have HO := Lib.hid hown
      have HR := Lib.hid hbr
      clear hown hbr
      by_cases hlt : 0 < len
      · go_wp2_with fail
        refine (l8Way_any A len cap xs f t _ (H.out.below HR.out) (by omega)).mono ?_
        intro e w2 hp
        obtain ⟨rfl, hb2⟩ := hp.no HW.out
        have HB2 := Lib.hid (below_trans HR.out hb2)
        have HO2 := Lib.hid (HO.out.below hb2 (Nat.le_refl _))
        clear hb2 hp
        go_wp2
        go_ret
        exact ⟨_, rfl, HO2.out, HB2.out⟩
      · go_wp2
        go_ret
        exact ⟨_, rfl, HO.out, HR.out⟩

set_option maxHeartbeats 1600000 in
theorem implGatesPassed_any (A : Option Addr) (len cap : Nat) (xs : List T3) (f t : Int) (ys : List Int) (w : World) (h : SlE 3 enc3 w A len xs) (hn : len ≤ 1048576) (hy : (WayOk xs f t ∧ ys = idxIf (inW f t) xs) ∨ (¬ WayOk xs f t ∧ ys = [])) :
    Calls Try.prog 22 #[.slice A len cap, .int .i64 f, .int .i64 t] w (RetOwn 1 encI 3 ys w) := by
  have H := Lib.hid h
  have HXL := Lib.hid h.len
  clear h
  rcases hy with ⟨hW, rfl⟩ | ⟨hW, rfl⟩
  · have HW := Lib.hid hW
    have hf := hW.2.1
    have ht := hW.2.2
    clear hW
    go_enter Try.func22, Try.ntmps22
    go_wp2_with fail
    refine (implGatesValid_any A len cap xs _ (H.out.alloc _) (by omega)).mono ?_
    intro e w1 hp
    obtain ⟨rfl, hb1⟩ := hp.yes HW.out.1
    have HB1 := Lib.hid (below_trans (below_alloc (Below.refl _ w) _) hb1)
    have HO1 := Lib.hid (OwnE.below (own_new (enc := encI) (k := 1) w 3 w.heap.size (Nat.le_refl _) encI_len [] #[] rfl (by simp) rfl) hb1 (Nat.le_refl _))
    clear hb1 hp
    go_wp2_with (go_at_call 60; refine (mileValid_any _ _).mono ?_; intro e w2 hp; obtain ⟨rfl, rfl⟩ := hp.yes (by omega))
    go_loopw [27, 7, 8, 9] (fun i s _ _ wr => ∃ k : Nat, k ≤ len ∧ i = .int .i64 k ∧ OwnE 1 encI 3 w.heap.size wr s (idxIf (inW f t) (xs.take k)) ∧ Below w.heap.size w wr) (fun i _ _ _ _ => len - (intOf i).toNat)
    case atStart => exact ⟨0, by omega, rfl, HO1.out, HB1.out⟩
    case round =>
      obtain ⟨k, hk, rfl, hown, hbr⟩ := hrel
      have HO := Lib.hid hown
      have HR := Lib.hid hbr
      clear hown hbr
      by_cases hlt : k < len
      · obtain ⟨b, off, x, y, z, rfl, hbl, hx, hd, h0, h1, h2⟩ := at3 H.out HR.out hlt
        have HX := Lib.hid (idxIf_next (f := inW f t) hx)
        have hlen : (idxIf (inW f t) (xs.take k)).length ≤ k := Nat.le_trans (idxIf_len _ _) (List.length_take_le _ _)
        have hsz := HR.out.size
        clear hx hd
        by_cases hin : f ≤ x ∧ x < t
        · rw [inW_yes hin] at HX
          go_wp2_with (at_builtin; refine wpList_push 1 8 3 encI encI_len encI_one (by omega) (k : Int) _ _ rfl rfl _ _ _ rfl Try.underlying35 info_int rfl w.heap.size _ _ rfl rfl (by simp) (HO.out.alloc _) (by omega) (by unfold maxLen; omega) (by simp; omega) ?_; intro v' w' hown' hg'; have HO' := Lib.hid hown'; have HB' := Lib.hid (below_grown (below_alloc HR.out _) hg' (HO.out.alloc _) (Nat.le_refl _)); clear hown' hg')
          go_roundw
          case rel => exact ⟨k + 1, by omega, by go_num, by rw [HX.out]; exact HO'.out, HB'.out⟩
          case measure => simp [intOf]; omega
        · have HX := Lib.hid (idxIf_no (inW_no hin) HX.out)
          rcases (show ¬ f ≤ x ∨ (f ≤ x ∧ ¬ x < t) by omega) with hin1 | ⟨hin1, hin2⟩
          all_goals
            clear hin
            go_wp2
            go_roundw
            case rel => exact ⟨k + 1, by omega, by go_num, by rw [HX.out]; exact HO.out.alloc _, below_alloc HR.out _⟩
            case measure => simp [intOf]; omega
      · have hx : xs.take k = xs := List.take_of_length_le (by have := HXL.out; omega)
        rw [hx] at HO
        clear hx
        go_wp2
        go_ret
        exact ⟨_, rfl, HO.out, HR.out⟩
  · have HW : Hid (¬ (GatesOk xs ∧ (0 ≤ f ∧ f ≤ 1000) ∧ (0 ≤ t ∧ t ≤ 1000))) := hW
    clear hW
    go_enter Try.func22, Try.ntmps22
    go_wp2_with fail
    refine (implGatesValid_any A len cap xs _ (H.out.alloc _) (by omega)).mono ?_
    intro e w1 hp
    have HO0 := Lib.hid (fun (hb1 : Below _ _ w1) => (OwnE.below (own_new (enc := encI) (k := 1) w 3 w.heap.size (Nat.le_refl _) encI_len [] #[] rfl (by simp) rfl) hb1 (Nat.le_refl _)))
    rcases hp.cases with ⟨rfl, hg, hb1⟩ | ⟨rfl, hg, hb1⟩
    all_goals
      have HB1 := Lib.hid (below_trans (below_alloc (Below.refl _ w) _) hb1)
      have HO1 := Lib.hid (HO0.out hb1)
      have HG := Lib.hid hg
      clear hb1 hp hg HO0
    · go_wp2_with (go_at_call 60; refine (mileValid_any _ _).mono ?_; intro e w2 hp; rcases hp.cases with ⟨rfl, hp, rfl⟩ | ⟨rfl, hp, rfl⟩)
      all_goals first
        | exact absurd ⟨HG.out, by omega, by omega⟩ HW.out
        | (go_ret; exact ⟨_, rfl, HO1.out, HB1.out⟩)
    · go_wp2
      go_ret
      exact ⟨_, rfl, HO1.out, HB1.out⟩
end Go.Proofs.Ytngbpdijempkpaa
