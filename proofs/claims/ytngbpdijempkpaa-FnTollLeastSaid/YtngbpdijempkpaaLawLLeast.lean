/- Walk of FnTollLeast. -/
import Derived.Test.YtngbpdijempkpaaDrawT
import Derived.Test.YtngbpdijempkpaaTWalkH
import Derived.Test.YtngbpdijempkpaaTWalkG
import Derived.Test.YtngbpdijempkpaaTPlainF
set_option linter.unusedVariables false
namespace Go.Proofs.Ytngbpdijempkpaa
open Go.RowKit

def LV (xs : List T3) (free f t : Int) : Int := least (gAt xs) free (idxIf (inW f t) xs) (fun _ => -1)
theorem lv_eq (xs : List T3) (free f t : Int) : LV xs free f t = leastG free (xs.filter (inW f t)) (fun _ => -1) := by unfold LV; rw [least_map, idxIf_map]
theorem leastG_top {free : Int} : ∀ (l : List T3) (c : Int → Int), (∀ p ∈ l, 1 ≤ p.c ∧ p.c ≤ 99) → leastG free l c ≤ 99 * l.length
  | [], _, _ => by simp [leastG]
  | p :: l, c, h => by
    have h0 := h p (List.mem_cons_self ..)
    have h1 := leastG_top (free := free) l (fun t => if p.b = t then p.a + free else c t) fun q hq => h q (List.mem_cons_of_mem _ hq)
    have h2 := leastG_top (free := free) l c fun q hq => h q (List.mem_cons_of_mem _ hq)
    simp only [leastG, List.length_cons]
    split <;> omega
theorem lv_bd {xs : List T3} (hG : GatesOk xs) (free f t : Int) : 0 ≤ LV xs free f t ∧ LV xs free f t ≤ 990 := by
  obtain ⟨h1, h2, -⟩ := gates_iff.1 hG
  have hm : ∀ p ∈ xs.filter (inW f t), 1 ≤ p.c ∧ p.c ≤ 99 := fun p hp => by
    have := h2 p (List.mem_filter.1 hp).1
    unfold GBd at this
    omega
  have h3 := leastG_nonneg (free := free) _ (fun _ => -1) (fun p hp => (hm p hp).1)
  have h4 := leastG_top (free := free) _ (fun _ => -1) hm
  have h5 := List.length_filter_le (inW f t) xs
  rw [lv_eq]
  omega
theorem lv_more (xs : List T3) (free f t : Int) : LV xs (free + 1) f t ≤ LV xs free f t := by
  rw [lv_eq, lv_eq]
  exact leastG_mono (by omega) _ _ _ (fun _ => Int.le_refl _)
theorem filter_none {f t : Int} (h : t ≤ f) (xs : List T3) : xs.filter (inW f t) = [] := by
  rw [List.filter_eq_nil_iff]
  intro p _
  simp [inW]
  omega
theorem lv_parts {xs : List T3} {free f t m : Int} (hG : GatesOk xs) (hf : 0 ≤ free) (h1 : f ≤ m) (h2 : m ≤ t ∨ (t ≤ f ∧ m = f)) : LV xs free f m ≤ LV xs free f t ∧ LV xs free f t ≤ LV xs free f m + LV xs free m t := by
  obtain ⟨-, hb, hp⟩ := gates_iff.1 hG
  have hc : ∀ g u, ∀ p ∈ xs.filter (inW g u), 1 ≤ p.c ∧ 0 ≤ p.a := fun g u p hp => by
    have := hb p (List.mem_filter.1 hp).1
    unfold GBd at this
    omega
  rw [lv_eq, lv_eq, lv_eq]
  rcases h2 with h2 | ⟨h2, rfl⟩
  · rw [filter_cut h1 h2 xs hp]
    exact ⟨leastG_pre _ _ _ (fun p hp => (hc _ _ p hp).1), leastG_split hf _ _ _ (fun _ => Int.le_refl _) (fun p hp => (hc _ _ p hp).2)⟩
  · rw [filter_none h2, filter_none (Int.le_refl _)]
    simp [leastG]

theorem least_a {A : Option Addr} {len c : Nat} {xs : List T3} {free x y : Int} {L0 : Int} (m : Int) (W : World) (hS : SlE 3 enc3 W A len xs) (hn : len ≤ 1048576) (hG : GatesOk xs) (hL : LV xs free x y = L0) (hf : 0 ≤ free ∧ free ≤ 999) (hx : 0 ≤ x ∧ x ≤ 1000) (hm : 0 ≤ m ∧ m ≤ 1000) (h1 : x ≤ m) (h2 : m ≤ y ∨ (y ≤ x ∧ m = x)) :
    Calls Try.prog 29 #[.slice A len c, .int .i64 free, .int .i64 x, .int .i64 m] W (fun e w' => ∃ a, e = .returned (.int .i64 a) ∧ 0 ≤ a ∧ a ≤ 990 ∧ a ≤ L0 ∧ (∀ b, b = LV xs free m y → L0 ≤ a + b) ∧ Below W.heap.size W w') := by
  refine (implTollLeast_any A len c xs free x m (LV xs free x m) W hS hn (.inl ⟨⟨⟨hG, hx, hm⟩, hf⟩, rfl⟩)).mono ?_
  rintro e w' ⟨rfl, hb⟩
  have hp := lv_parts (free := free) hG hf.1 h1 h2
  have hbd := lv_bd hG free x m
  exact ⟨_, rfl, hbd.1, hbd.2, by rw [← hL]; exact hp.1, fun b h => by rw [h, ← hL]; exact hp.2, hb⟩
theorem least_b {A : Option Addr} {len c : Nat} {xs : List T3} {free y : Int} (m : Int) (W : World) (hS : SlE 3 enc3 W A len xs) (hn : len ≤ 1048576) (hG : GatesOk xs) (hf : 0 ≤ free ∧ free ≤ 999) (hm : 0 ≤ m ∧ m ≤ 1000) (hy : 0 ≤ y ∧ y ≤ 1000) :
    Calls Try.prog 29 #[.slice A len c, .int .i64 free, .int .i64 m, .int .i64 y] W (fun e w' => ∃ b, e = .returned (.int .i64 b) ∧ 0 ≤ b ∧ b ≤ 990 ∧ b = LV xs free m y ∧ Below W.heap.size W w') := by
  refine (implTollLeast_any A len c xs free m y (LV xs free m y) W hS hn (.inl ⟨⟨⟨hG, hm, hy⟩, hf⟩, rfl⟩)).mono ?_
  rintro e w' ⟨rfl, hb⟩
  have hbd := lv_bd hG free m y
  exact ⟨_, rfl, hbd.1, hbd.2, rfl, hb⟩

set_option maxRecDepth 20000 in
set_option maxHeartbeats 6400000 in
theorem lawFnTollLeast_walk (A0 : Option Addr) (len0 cap0 : Nat) (xs0 : List Int) (A1 : Option Addr) (len1 cap1 : Nat) (xs1 : List Int) (w : World) (h0 : SlE 1 encU w A0 len0 xs0) (hb0 : Bytes xs0) (hc0 : len0 ≤ cap0) (h1 : SlE 1 encU w A1 len1 xs1) (hb1 : Bytes xs1) (hc1 : len1 ≤ cap1) :
    Calls Try.prog 7 #[.slice A0 len0 cap0, .slice A1 len1 cap1] w (Only (.bool true) w) := by
  have H0 := Lib.hid h0
  have HB0 := Lib.hid hb0
  clear h0 hb0 h1 hb1
  by_cases hbig : (len0 : Int) ≤ 1048576
  rotate_left
  · go_enter Try.func7, Try.ntmps7
    go_wp2_with fail
    go_ret
    exact ⟨rfl, Below.refl _ _⟩
  by_cases hbig1 : (len1 : Int) ≤ 1048576
  rotate_left
  · go_enter Try.func7, Try.ntmps7
    go_wp2_with fail
    go_ret
    exact ⟨rfl, Below.refl _ _⟩
  go_enter Try.func7, Try.ntmps7
  go_wp2_with fail
  refine (drawTollLeast_any A0 len0 cap0 xs0 w H0.out HB0.out (by omega) hc0).mono ?_
  rintro e w1 ⟨v, xs, free, x, y, rfl, hl, ⟨f0, f1⟩, ⟨x0, x1⟩, ⟨y0, y1⟩, hown, hb1⟩
  obtain ⟨A, c, rfl, -, hlc⟩ := hown.slc enc3_len rfl
  generalize hlen : xs.length = len at *
  have HL := Lib.hid hlen
  have O1 := Lib.hid (sl_of_own_at enc3_len hown hlen)
  have B1 := Lib.hid hb1
  clear hown hb1 H0 HB0 hlen
  by_cases hok : TollOk xs free x y
  · have HOK := Lib.hid hok
    obtain ⟨⟨hG, ⟨x2, x3⟩, y2, y3⟩, f2, f3⟩ := hok
    have HG := Lib.hid hG
    have hbd := lv_bd hG free x y
    generalize hL0 : LV xs free x y = L0 at *
    obtain ⟨l0, l1⟩ := hbd
    have HL0 := Lib.hid hL0
    clear hG hL0
    go_wp2_with fail
    refine (implTollLeast_any A len c xs free x y L0 w1 O1.out (by omega) (.inl ⟨HOK.out, HL0.out.symm⟩)).mono ?_
    rintro e w2 ⟨rfl, hb2⟩
    have O2 := Lib.hid (O1.out.below hb2)
    have B2 := Lib.hid (below_trans B1.out hb2)
    clear hb2 O1 B1
    go_wp2_with fail
    refine (specTollLeast_any A len c xs free x y L0 w2 O2.out (by omega) (.inl ⟨HOK.out, HL0.out.symm⟩)).mono ?_
    rintro e w3 ⟨rfl, hb3⟩
    have O3 := Lib.hid (O2.out.below hb3)
    have B3 := Lib.hid (below_trans B2.out hb3)
    clear hb3 O2 B2
    obtain ⟨q, hq0, hq1, hq⟩ : ∃ q : Int, 0 ≤ q ∧ q < 100 ∧ (len1 : Int) % 100 = q := ⟨_, by omega, by omega, rfl⟩
    go_wp2_with fail
    all_goals
      refine (least_a _ w3 O3.out (by omega) HG.out HL0.out ⟨f2, f3⟩ ⟨x2, x3⟩ ⟨by omega, by omega⟩ (by omega) (by omega)).mono ?_
      rintro e w4 ⟨a, rfl, a0, a1, a2, hAB, hb4⟩
      have HAB := Lib.hid hAB
      have O4 := Lib.hid (O3.out.below hb4)
      have B4 := Lib.hid (below_trans B3.out hb4)
      clear hb4 hAB O3 B3
      go_wp2_with fail
      refine (least_b _ w4 O4.out (by omega) HG.out ⟨f2, f3⟩ ⟨by omega, by omega⟩ ⟨y2, y3⟩).mono ?_
      rintro e w5 ⟨b, rfl, b0, b1, hbe, hb5⟩
      have hab := HAB.out b hbe
      have O5 := Lib.hid (O4.out.below hb5)
      have B5 := Lib.hid (below_trans B4.out hb5)
      clear hb5 hbe HAB O4 B4
      by_cases hfe : free = 999
      · have hfe' : (free == 999) = true := by simp [hfe]
        go_wp2_with fail
        go_ret
        exact ⟨by simp <;> omega, B5.out⟩
      · have hfe' : (free == 999) = false := by simp [hfe]
        have x9 : IntKind.i64.wrap (free + 1) = free + 1 := IntWalk.i64_in _ (by omega)
        have hmo := lv_more xs free x y
        rw [HL0.out] at hmo
        have HMO := Lib.hid hmo
        clear hmo
        go_wp2_with fail
        refine (implTollLeast_any A len c xs (free + 1) x y (LV xs (free + 1) x y) w5 O5.out (by omega) (.inl ⟨⟨⟨HG.out, ⟨x2, x3⟩, y2, y3⟩, by omega, by omega⟩, rfl⟩)).mono ?_
        rintro e w6 ⟨rfl, hb6⟩
        have B6 := Lib.hid (below_trans B5.out hb6)
        have hmo := HMO.out
        clear hb6 O5 B5 HMO HL0
        generalize LV xs (free + 1) x y = L1 at *
        go_wp2_with fail
        go_ret
        exact ⟨by simp <;> omega, B6.out⟩
  · have HN := Lib.hid hok
    clear hok
    go_wp2_with fail
    refine (implTollLeast_any A len c xs free x y (-1) w1 O1.out (by omega) (.inr ⟨HN.out, rfl⟩)).mono ?_
    rintro e w2 ⟨rfl, hb2⟩
    have O2 := Lib.hid (O1.out.below hb2)
    have B2 := Lib.hid (below_trans B1.out hb2)
    clear hb2 O1 B1
    go_wp2_with fail
    refine (specTollLeast_any A len c xs free x y (-1) w2 O2.out (by omega) (.inr ⟨HN.out, rfl⟩)).mono ?_
    rintro e w3 ⟨rfl, hb3⟩
    have B3 := Lib.hid (below_trans B2.out hb3)
    clear hb3 O2 B2
    go_wp2_with fail
    go_ret
    exact ⟨rfl, B3.out⟩
end Go.Proofs.Ytngbpdijempkpaa
