/- Walk of FnGatesLater. -/
import Derived.Test.YtngbpdijempkpaaDrawL
import Derived.Test.YtngbpdijempkpaaGLater
import Derived.Test.YtngbpdijempkpaaSameG
import Derived.Test.YtngbpdijempkpaaLV
set_option linter.unusedVariables false
namespace Go.Proofs.Ytngbpdijempkpaa
open Go.RowKit

theorem moved_back (k : Int) (xs : List T3) : moved (-k) (moved k xs) = xs := by
  unfold moved
  rw [List.map_map]
  have e : ((fun p : T3 => (⟨p.a + -k, p.b, p.c⟩ : T3)) ∘ fun p : T3 => (⟨p.a + k, p.b, p.c⟩ : T3)) = id := by
    funext p
    obtain ⟨a, b, c⟩ := p
    simp only [Function.comp, id]
    congr 1
    omega
  rw [e, List.map_id]
theorem all_way {xs : List T3} (h : GatesOk xs) : xs.filter (inW 0 1000) = xs := by
  rw [List.filter_eq_self]
  intro p hp
  have := (gates_iff.1 h).2.1 p hp
  unfold GBd at this
  simp [inW]
  omega
theorem lv_moved {xs : List T3} {k : Int} (h : GatesOk xs) (h' : GatesOk (moved k xs)) (free : Int) : LV (moved k xs) free 0 1000 = LV xs free 0 1000 := by
  rw [lv_eq, lv_eq, all_way h, all_way h']
  refine leastG_moved xs (fun _ => -1) (fun _ => -1) (fun t => .inl ⟨rfl, rfl⟩) fun p hp => ?_
  have h1 := (gates_iff.1 h).2.1 p hp
  have h2 := (gates_iff.1 h').2.1 ⟨p.a + k, p.b, p.c⟩ (List.mem_map.2 ⟨p, hp, rfl⟩)
  unfold GBd at h1 h2
  dsimp only at h2
  omega
theorem later_back {xs : List T3} {k k2 : Int} (h : LaterOk xs k) (hk : xs.length = 0 ∨ k2 = -k) : LaterIs (moved k xs) k2 xs true := by
  obtain ⟨h1, h2, h3⟩ := h
  have e : moved k2 (moved k xs) = xs := by
    rcases hk with hk | rfl
    · obtain rfl := List.eq_nil_of_length_eq_zero hk
      rfl
    · exact moved_back k xs
  refine .inl ⟨rfl, ⟨h3, ?_, by rw [e]; exact h1⟩, e.symm⟩
  rw [moved_len]
  rcases hk with hk | rfl
  · exact .inl hk
  · rcases h2 with h2 | h2
    · exact .inl h2
    · exact .inr (by omega)

set_option maxRecDepth 20000 in
set_option maxHeartbeats 6400000 in
theorem lawFnGatesLater_walk (A0 : Option Addr) (len0 cap0 : Nat) (xs0 : List Int) (A1 : Option Addr) (len1 cap1 : Nat) (xs1 : List Int) (w : World) (h0 : SlE 1 encU w A0 len0 xs0) (hb0 : Bytes xs0) (hc0 : len0 ≤ cap0) (h1 : SlE 1 encU w A1 len1 xs1) (hb1 : Bytes xs1) (hc1 : len1 ≤ cap1) :
    Calls Try.prog 6 #[.slice A0 len0 cap0, .slice A1 len1 cap1] w (Only (.bool true) w) := by
  have H0 := Lib.hid h0
  have HB0 := Lib.hid hb0
  clear h0 hb0 h1 hb1
  by_cases hbig : (len0 : Int) ≤ 1048576
  rotate_left
  · go_enter Try.func6, Try.ntmps6
    go_wp2_with fail
    go_ret
    exact ⟨rfl, Below.refl _ _⟩
  by_cases hbig1 : (len1 : Int) ≤ 1048576
  rotate_left
  · go_enter Try.func6, Try.ntmps6
    go_wp2_with fail
    go_ret
    exact ⟨rfl, Below.refl _ _⟩
  go_enter Try.func6, Try.ntmps6
  go_wp2_with fail
  refine (drawLater_any A0 len0 cap0 xs0 w H0.out HB0.out (by omega) hc0).mono ?_
  rintro e w1 ⟨v, xs, k, rfl, hl, -, k0, k1, hown, hb1⟩
  obtain ⟨A, c, rfl, -, hlc⟩ := hown.slc enc3_len rfl
  generalize hlen : xs.length = len at *
  have HL := Lib.hid hlen
  have O1 := Lib.hid (sl_of_own_at enc3_len hown hlen)
  have B1 := Lib.hid hb1
  have HKK := Lib.hid (And.intro k0 k1)
  clear hown hb1 H0 HB0 hlen k0 k1
  by_cases hok : LaterOk xs k
  · have HOK := Lib.hid hok
    have HIS : Hid (LaterIs xs k (moved k xs) true) := .inl ⟨rfl, hok, rfl⟩
    have HML := Lib.hid (show (moved k xs).length = len by rw [moved_len, HL.out])
    have hbd := fun free => lv_bd hok.1 free 0 1000
    have HBD := Lib.hid hbd
    have HLV := Lib.hid (lv_moved hok.1 hok.2.2)
    have HLE : Hid (∀ free : Int, 0 ≤ free → free ≤ 999 → LeastIs xs free 0 1000 (LV xs free 0 1000)) := fun free h1 h2 => .inl ⟨⟨⟨HOK.out.1, by omega, by omega⟩, h1, h2⟩, rfl⟩
    have HLM : Hid (∀ free : Int, 0 ≤ free → free ≤ 999 → LeastIs (moved k xs) free 0 1000 (LV xs free 0 1000)) := fun free h1 h2 => .inl ⟨⟨⟨HOK.out.2.2, by omega, by omega⟩, h1, h2⟩, (HLV.out free).symm⟩
    have HBK := Lib.hid (fun k2 h => later_back (k2 := k2) HOK.out h)
    have hr := hok.2.1
    rw [HL.out] at hr HBK
    clear hok hbd
    generalize moved k xs = ms at *
    obtain ⟨q, hq0, hq1, hq⟩ : ∃ q : Int, 0 ≤ q ∧ q < 60 ∧ (len1 : Int) % 60 = q := ⟨_, by omega, by omega, rfl⟩
    have hbq := HBD.out q
    obtain ⟨hq2, hq3⟩ := hbq
    have HLE2 := Lib.hid (HLE.out q hq0 (by omega))
    have HLM2 := Lib.hid (HLM.out q hq0 (by omega))
    clear HLE HLM HBD HLV
    generalize LV xs q 0 1000 = L0 at *
    go_wp2_with fail
    refine (implGatesLater_any A len c xs k ms true w1 O1.out (by omega) HIS.out).mono ?_
    rintro e w2 ⟨v2, rfl, hown2, hb2⟩
    obtain ⟨A2, c2, rfl, -, -⟩ := hown2.slc enc3_len HML.out
    have M2 := Lib.hid (sl_of_own_at enc3_len hown2 HML.out)
    have O2 := Lib.hid (O1.out.below hb2)
    have B2 := Lib.hid (below_trans B1.out hb2)
    clear hown2 hb2 O1 B1
    go_wp2_with fail
    refine (specGatesLater_any A len c xs k ms true w2 O2.out (by omega) HIS.out).mono ?_
    rintro e w3 ⟨v3, rfl, hown3, hb3⟩
    obtain ⟨A3, c3, rfl, -, -⟩ := hown3.slc enc3_len HML.out
    have N3 := Lib.hid (sl_of_own_at enc3_len hown3 HML.out)
    have M3 := Lib.hid (M2.out.below hb3)
    have O3 := Lib.hid (O2.out.below hb3)
    have B3 := Lib.hid (below_trans B2.out hb3)
    clear hown3 hb3 O2 B2 M2
    go_wp2_with fail
    refine (sameGates_yes A2 A3 len c2 c3 ms w3 M3.out N3.out (by omega)).mono ?_
    rintro e w4 ⟨rfl, hb4⟩
    have M4 := Lib.hid (M3.out.below hb4)
    have O4 := Lib.hid (O3.out.below hb4)
    have B4 := Lib.hid (below_trans B3.out hb4)
    clear hb4 O3 B3 M3 N3
    have HT : Hid (∀ (k2 : Int) (W : World), LaterIs ms k2 xs true → SlE 3 enc3 W A2 len ms → Calls Try.prog 27 #[.slice A2 len c2, .int .i64 k2] W (RetOwnB 3 enc3 31 xs true W)) :=
      fun k2 W h1 h2 => implGatesLater_any A2 len c2 ms k2 xs true W h2 (by omega) h1
    rcases hr with hr | ⟨hr1, hr2⟩
    · have HR0 := Lib.hid hr
      have HBK0 := Lib.hid (fun k2 => HBK.out k2 (.inl hr))
      clear hr
      go_wp2_with fail
      refine (HT.out _ w4 (HBK0.out _) M4.out).mono ?_
      rintro e w5 ⟨v5, rfl, hown5, hb5⟩
      obtain ⟨A5, c5, rfl, -, -⟩ := hown5.slc enc3_len HL.out
      have X5 := Lib.hid (sl_of_own_at enc3_len hown5 HL.out)
      have M5 := Lib.hid (M4.out.below hb5)
      have O5 := Lib.hid (O4.out.below hb5)
      have B5 := Lib.hid (below_trans B4.out hb5)
      clear hown5 hb5 O4 B4 M4
      go_wp2_with fail
      refine (sameGates_yes A5 A len c5 c xs w5 X5.out O5.out (by omega)).mono ?_
      rintro e w6 ⟨rfl, hb6⟩
      have M6 := Lib.hid (M5.out.below hb6)
      have O6 := Lib.hid (O5.out.below hb6)
      have B6 := Lib.hid (below_trans B5.out hb6)
      clear hb6 O5 B5 M5 X5
      go_wp2_with fail
      refine (implTollLeast_any A2 len c2 ms q 0 1000 L0 w6 M6.out (by omega) HLM2.out).mono ?_
      rintro e w7 ⟨rfl, hb7⟩
      have O7 := Lib.hid (O6.out.below hb7)
      have B7 := Lib.hid (below_trans B6.out hb7)
      clear hb7 O6 B6 M6
      go_wp2_with fail
      refine (implTollLeast_any A len c xs q 0 1000 L0 w7 O7.out (by omega) HLE2.out).mono ?_
      rintro e w8 ⟨rfl, hb8⟩
      have B8 := Lib.hid (below_trans B7.out hb8)
      clear hb8 O7 B7
      go_wp2_with fail
      go_ret
      exact ⟨by simp, B8.out⟩
    · have x1 : IntKind.i64.wrap (0 - k) = -k := by rw [IntWalk.i64_in _ (by omega)]; omega
      have x2 : IntKind.i64.wrap (-k) = -k := IntWalk.i64_in _ (by omega)
      have HBK0 := Lib.hid (HBK.out (-k) (.inr rfl))
      go_wp2_with fail
      refine (HT.out (-k) w4 HBK0.out M4.out).mono ?_
      rintro e w5 ⟨v5, rfl, hown5, hb5⟩
      obtain ⟨A5, c5, rfl, -, -⟩ := hown5.slc enc3_len HL.out
      have X5 := Lib.hid (sl_of_own_at enc3_len hown5 HL.out)
      have M5 := Lib.hid (M4.out.below hb5)
      have O5 := Lib.hid (O4.out.below hb5)
      have B5 := Lib.hid (below_trans B4.out hb5)
      clear hown5 hb5 O4 B4 M4
      go_wp2_with fail
      refine (sameGates_yes A5 A len c5 c xs w5 X5.out O5.out (by omega)).mono ?_
      rintro e w6 ⟨rfl, hb6⟩
      have M6 := Lib.hid (M5.out.below hb6)
      have O6 := Lib.hid (O5.out.below hb6)
      have B6 := Lib.hid (below_trans B5.out hb6)
      clear hb6 O5 B5 M5 X5
      go_wp2_with fail
      refine (implTollLeast_any A2 len c2 ms q 0 1000 L0 w6 M6.out (by omega) HLM2.out).mono ?_
      rintro e w7 ⟨rfl, hb7⟩
      have O7 := Lib.hid (O6.out.below hb7)
      have B7 := Lib.hid (below_trans B6.out hb7)
      clear hb7 O6 B6 M6
      go_wp2_with fail
      refine (implTollLeast_any A len c xs q 0 1000 L0 w7 O7.out (by omega) HLE2.out).mono ?_
      rintro e w8 ⟨rfl, hb8⟩
      have B8 := Lib.hid (below_trans B7.out hb8)
      clear hb8 O7 B7
      go_wp2_with fail
      go_ret
      exact ⟨by simp, B8.out⟩
  · have HN : Hid (LaterIs xs k [] false) := .inr ⟨rfl, hok, rfl⟩
    clear hok
    go_wp2_with fail
    refine (implGatesLater_any A len c xs k [] false w1 O1.out (by omega) HN.out).mono ?_
    rintro e w2 ⟨v2, rfl, hown2, hb2⟩
    obtain ⟨A2, c2, rfl, -, -⟩ := hown2.slc enc3_len (n := 0) rfl
    have E2 := Lib.hid (sl_of_own_at enc3_len hown2 (n := 0) rfl)
    have O2 := Lib.hid (O1.out.below hb2)
    have B2 := Lib.hid (below_trans B1.out hb2)
    clear hown2 hb2 O1 B1
    go_wp2_with fail
    refine (specGatesLater_any A len c xs k [] false w2 O2.out (by omega) HN.out).mono ?_
    rintro e w3 ⟨v3, rfl, hown3, hb3⟩
    obtain ⟨A3, c3, rfl, -, -⟩ := hown3.slc enc3_len (n := 0) rfl
    have F3 := Lib.hid (sl_of_own_at enc3_len hown3 (n := 0) rfl)
    have E3 := Lib.hid (E2.out.below hb3)
    have B3 := Lib.hid (below_trans B2.out hb3)
    clear hown3 hb3 O2 E2 B2
    go_wp2_with fail
    refine (sameGates_yes A2 A3 0 c2 c3 [] w3 E3.out F3.out (by omega)).mono ?_
    rintro e w4 ⟨rfl, hb4⟩
    have E4 := Lib.hid (E3.out.below hb4)
    have F4 := Lib.hid (F3.out.below hb4)
    have B4 := Lib.hid (below_trans B3.out hb4)
    clear hb4 E3 F3 B3
    go_wp2_with fail
    refine (sameGates_yes A2 A3 0 c2 c3 [] w4 E4.out F4.out (by omega)).mono ?_
    rintro e w5 ⟨rfl, hb5⟩
    have B5 := Lib.hid (below_trans B4.out hb5)
    clear hb5 E4 F4 B4
    go_wp2_with fail
    go_ret
    exact ⟨rfl, B5.out⟩
end Go.Proofs.Ytngbpdijempkpaa
