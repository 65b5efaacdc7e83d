/- Contracts: SeatingValid of the reference. -/
import Derived.Test.YtkknfhabfmpogaaSWalkF
import Derived.Deep.RegionHeld3
set_option linter.unusedVariables false
namespace Go.Proofs.Ytkknfhabfmpogaa
open Go.RowKit

theorem cellB_of {w wr : World} {b off n : Nat} {xs : List B3} (h : SlE 3 encB w (some ⟨b, off, none⟩) n xs) (hb : Below w.heap.size w wr) {j : Nat} {x y : Int} {z : Bool} (hx : xs[j]? = some ⟨x, y, z⟩) :
    wr.cell? ⟨b, off + j * 3, none⟩ = some (.int .i64 x) ∧ wr.cell? ⟨b, off + j * 3 + 1, none⟩ = some (.int .i64 y) ∧ wr.cell? ⟨b, off + j * 3 + 2, none⟩ = some (.bool z) := by
  have hj : j < n := by rw [← h.len]; exact (List.getElem?_eq_some_iff.1 hx).1
  obtain ⟨b', off', x1, y1, z1, hA, -, hx1, -, g0, g1, g2⟩ := atB h hb hj
  injection hA with hA
  injection hA with e1 e2
  subst e1 e2
  rw [hx] at hx1
  injection hx1 with hx1
  injection hx1 with e1 e2 e3
  subst e1 e2 e3
  exact ⟨g0, g1, g2⟩
theorem cell1_of {w wr : World} {b off n : Nat} {xs : List Int} (h : SlE 1 encI w (some ⟨b, off, none⟩) n xs) (hb : Below w.heap.size w wr) {j : Nat} {x : Int} (hx : xs[j]? = some x) : wr.cell? ⟨b, off + j, none⟩ = some (.int .i64 x) := by
  have hj : j < n := by rw [← h.len]; exact (List.getElem?_eq_some_iff.1 hx).1
  obtain ⟨b', off', x1, hA, -, hx1, -, g0⟩ := at1 h hb hj
  injection hA with hA
  injection hA with e1 e2
  subst e1 e2
  rw [hx] at hx1
  injection hx1 with hx1
  subst hx1
  exact g0

set_option maxRecDepth 20000 in
set_option maxHeartbeats 400000 in
theorem l4Seats_any (k : Bool) (w : World) : Calls Try.prog 47 #[.bool k] w (Same (.int .i64 (capOf k)) w) := by
  cases k
  all_goals
    simp only [capOf, Bool.false_eq_true, if_true, if_false]
    go_enter Try.func47, Try.ntmps47
    go_wp2
    go_ret
    exact ⟨rfl, rfl⟩
set_option maxRecDepth 20000 in
set_option maxHeartbeats 1600000 in
theorem l4Meet_any (p q : B3) (w : World) :
    Calls Try.prog 48 #[.agg #[.int .i64 p.a, .int .i64 p.b, .bool p.c], .agg #[.int .i64 q.a, .int .i64 q.b, .bool q.c]] w (OnlyB (meetB p q) w) := by
  obtain ⟨a, b, c⟩ := p
  obtain ⟨a', b', c'⟩ := q
  have HB := Lib.hid (below_alloc (below_alloc (Below.refl w.heap.size w) (.cells #[.int .i64 a, .int .i64 b, .bool c] 28)) (.cells #[.int .i64 a', .int .i64 b', .bool c'] 28))
  dsimp only
  by_cases hk : c = c'
  · subst hk
    by_cases h1 : a < b'
    · by_cases h2 : a' < b
      · go_enter Try.func48, Try.ntmps48
        go_wp2_with fail
        go_ret
        exact onlyB_true ⟨rfl, h1, h2⟩ HB.out
      · have d2 : decide (a' < b) = false := by simpa using h2
        have HN := Lib.hid h2
        clear h2
        go_enter Try.func48, Try.ntmps48
        go_wp2_with fail
        go_ret
        exact onlyB_false (fun hh => by have := HN.out; have := hh.2.2; dsimp only at this; omega) HB.out
    · have d1 : decide (a < b') = false := by simpa using h1
      have HN := Lib.hid h1
      clear h1
      go_enter Try.func48, Try.ntmps48
      go_wp2_with fail
      go_ret
      exact onlyB_false (fun hh => by have := HN.out; have := hh.2.1; dsimp only at this; omega) HB.out
  · have d0 : (c == c') = false := by simpa using hk
    have HN := Lib.hid (show ¬ meetB ⟨a, b, c⟩ ⟨a', b', c'⟩ from fun hh => hk hh.1)
    clear hk
    go_enter Try.func48, Try.ntmps48
    go_wp2_with fail
    go_ret
    exact onlyB_false HN.out HB.out

set_option maxRecDepth 20000 in
set_option maxHeartbeats 6400000 in
theorem specSeatingValid_any (A B : Option Addr) (n : Int) (len cap len2 cap2 : Nat) (xs : List B3) (ys : List Int) (w : World) (h : SlE 3 encB w A len xs) (h2 : SlE 1 encI w B len2 ys) (hn : len ≤ 16777216) :
    Calls Try.prog 14 #[.int .i64 n, .slice A len cap, .slice B len2 cap2] w (OnlyB (BookOk n xs ∧ SeatOk xs ys) w) := by
  have H := Lib.hid h
  have H2 := Lib.hid h2
  have HL := Lib.hid h.len
  have HL2 := Lib.hid h2.len
  clear h h2
  by_cases hok : BookOk n xs
  rotate_left
  · have HN := Lib.hid hok
    clear hok
    go_enter Try.func14, Try.ntmps14
    go_wp2_with fail
    refine (specBookingsValid_any A n len cap xs w H.out hn).mono ?_
    intro e w2 hp
    obtain ⟨rfl, hb⟩ := hp.no HN.out
    have HB := Lib.hid hb
    clear hp hb
    go_wp2_with fail
    go_ret
    exact onlyB_false (fun hh => HN.out hh.1) HB.out
  have HOK := Lib.hid hok
  have hn1 := hok.1
  have hn7 := hok.2.1
  have hm : len ≤ 16 := by have := hok.2.2.1; rw [HL.out] at this; exact this
  have HW := Lib.hid (okB_w hn7 hok.2.2.2.1)
  clear hok
  by_cases hll : len2 = len
  rotate_left
  · have HN := Lib.hid (show ¬ SeatOk xs ys from fun hs => hll (by rw [← HL.out, ← HL2.out]; exact hs.1))
    have d0 : ((len2 : Int) == (len : Int)) = false := by simp; omega
    have d1 : ((len2 : Int) != (len : Int)) = true := by simp [bne, d0]
    clear hll
    go_enter Try.func14, Try.ntmps14
    go_wp2_with fail
    refine (specBookingsValid_any A n len cap xs w H.out hn).mono ?_
    intro e w2 hp
    obtain ⟨rfl, hb⟩ := hp.yes HOK.out
    have HB := Lib.hid hb
    clear hp hb
    go_wp2_with fail
    go_ret
    exact onlyB_false (fun hh => HN.out hh.2) HB.out
  subst hll
  have d0 : ((len2 : Int) == (len2 : Int)) = true := by simp
  have d1 : ((len2 : Int) != (len2 : Int)) = false := by simp
  go_enter Try.func14, Try.ntmps14
  go_wp2_with fail
  refine (specBookingsValid_any A n len2 cap xs w H.out hn).mono ?_
  intro e w2 hp
  obtain ⟨rfl, hb⟩ := hp.yes HOK.out
  have HB := Lib.hid hb
  clear hp hb d0 d1
  go_wp2_with fail
  go_loopw [7, 8] (fun i _ wr => ∃ j : Nat, j ≤ len2 ∧ i = .int .i64 j ∧ SeatOk (xs.take j) (ys.take j) ∧ Below w.heap.size w wr) (fun i _ _ => len2 - (intOf i).toNat)
  case atStart => exact ⟨0, by omega, rfl, seat_nil, HB.out⟩
  case round =>
    obtain ⟨j, hj, rfl, hs, hb⟩ := hrel
    have HS := Lib.hid hs
    have HR := Lib.hid hb
    clear hs hb HB
    by_cases hlt : j < len2
    rotate_left
    · have e : j = len2 := by omega
      have HT : Hid (SeatOk xs ys) := by
        have := HS.out
        rw [e, List.take_of_length_le (by rw [HL.out]; omega), List.take_of_length_le (by rw [HL2.out]; omega)] at this
        exact this
      clear e
      go_wp2_with fail
      go_ret
      exact onlyB_true ⟨HOK.out, HT.out⟩ HR.out
    obtain ⟨b, off, x, y, z, rfl, hbl, hx, hd, g0, g1, g2⟩ := atB H.out HR.out hlt
    obtain ⟨b2, off2, o, rfl, hbl2, ho, hd2, k0⟩ := at1 H2.out HR.out hlt
    have HX := Lib.hid hx
    have HO := Lib.hid ho
    have i0 : (0 : Int) ≤ (j : Int) := by omega
    have i1 : (j : Int) < (len2 : Int) := by omega
    obtain ⟨c0, c1⟩ := capOf_bd z
    have w1 : IntKind.i64.wrap ((capOf z : Int) - 1) = (capOf z : Int) - 1 := IntWalk.i64_in _ (by omega)
    clear hx hd ho hd2
    have H4 := Lib.hid (fun W => l4Seats_any z W)
    have HDr := Lib.hid HR.out.drew
    by_cases hr : 0 ≤ o ∧ o ≤ (capOf z : Int) - 1
    rotate_left
    · have K1 := Lib.hid hr
      have HNS := Lib.hid (seat_not_range HX.out HO.out (fun hh => hr (by dsimp only at hh; omega)))
      generalize capOf z = cz at *
      clear hr
      go_wp2_with fail
      go_region_held3 (fun w' => w'.cell? ⟨b2, off2 + j, none⟩ = some (.int .i64 o) ∧ w'.cell? ⟨b, off + j * 3 + 2, none⟩ = some (.bool z)) (go_keep)
        (first | (go_at_call 47; (with_reducible_and_instances refine (H4.out _).mono ?_); rintro e w4 ⟨rfl, rfl⟩) | (go_at_call 41; (with_reducible_and_instances refine (l6In_any o 0 _ _).mono ?_); intro e w4 hp; obtain ⟨rfl, rfl⟩ := hp.no K1.out; clear hp) | fail)
      clear w1
      go_wp2_with fail
      go_ret
      exact onlyB_false (fun hh => HNS.out hh.2) HDr.out
    have K1 := Lib.hid hr
    have HRA := Lib.hid (show 0 ≤ o ∧ o < (capOf z : Int) by omega)
    generalize hcz : capOf z = cz at *
    have HCZ := Lib.hid hcz
    clear hr hcz
    go_wp2_with fail
    go_region_held3 (fun w' => w'.cell? ⟨b2, off2 + j, none⟩ = some (.int .i64 o) ∧ w'.cell? ⟨b, off + j * 3 + 2, none⟩ = some (.bool z)) (go_keep)
      (first | (go_at_call 47; (with_reducible_and_instances refine (H4.out _).mono ?_); rintro e w4 ⟨rfl, rfl⟩) | (go_at_call 41; (with_reducible_and_instances refine (l6In_any o 0 _ _).mono ?_); intro e w4 hp; obtain ⟨rfl, rfl⟩ := hp.yes K1.out; clear hp) | fail)
    clear w1
    go_wp2_with fail
    obtain ⟨W0, hW0⟩ : ∃ W0, W0 = wr.drew := ⟨_, rfl⟩
    rw [← hW0] at HDr
    rw [← hW0]
    clear hW0
    go_loopw [8] (fun i wl => ∃ k : Nat, k ≤ j ∧ i = .int .i64 k ∧ (∀ (m : Nat) q, m < k → xs[m]? = some q → ys[m]? = some o → ¬ meetB ⟨x, y, z⟩ q) ∧ Below w.heap.size w wl) (fun i _ => j - (intOf i).toNat)
    case atStart => exact ⟨0, by omega, rfl, fun m q hm => absurd hm (by omega), HDr.out⟩
    case round =>
      obtain ⟨k, hk, rfl, hno, hb⟩ := hrel
      have HNO := Lib.hid hno
      have HQ := Lib.hid hb
      clear hno hb
      by_cases hkj : k < j
      rotate_left
      · have HBK : Hid (blk (xs.take j) (ys.take j) ⟨x, y, z⟩ o = false) := by
          cases hbk : blk (xs.take j) (ys.take j) ⟨x, y, z⟩ o with
          | false => exact rfl
          | true =>
            obtain ⟨m, q, m1, m2, m3⟩ := (blk_iff _ _ _ _).1 hbk
            obtain ⟨m4, m5⟩ := take_at m1
            obtain ⟨_, m6⟩ := take_at m2
            exact absurd m3 (HNO.out m q (by omega) m5 m6)
        have HSN := Lib.hid (seat_next HX.out HO.out HS.out HRA.out.1 (by have := HRA.out.2; have := HCZ.out; dsimp only; omega) HBK.out)
        go_wp2_with fail
        go_roundw
        case rel => exact ⟨j + 1, by omega, by go_num, HSN.out, HQ.out⟩
        case measure => simp [intOf]; omega
      have hkl : k < len2 := by omega
      have j0 : (0 : Int) ≤ (k : Int) := by omega
      have j1 : (k : Int) < (len2 : Int) := by omega
      obtain ⟨b', off', x1, y1, z1, hA, hbl', hx1, hd1, g0, g1, g2⟩ := atB H.out HQ.out hlt
      injection hA with hA
      injection hA with e1 e2
      subst e1 e2
      rw [HX.out] at hx1
      injection hx1 with hx1
      injection hx1 with e1 e2 e3
      subst e1 e2 e3
      obtain ⟨b', off', x', y', z', hA, -, hx', hd', q0, q1, q2⟩ := atB H.out HQ.out hkl
      injection hA with hA
      injection hA with e1 e2
      subst e1 e2
      obtain ⟨b', off', o1, hA, hbl2', ho1, hd1', l0⟩ := at1 H2.out HQ.out hlt
      injection hA with hA
      injection hA with e1 e2
      subst e1 e2
      rw [HO.out] at ho1
      injection ho1 with ho1
      subst ho1
      obtain ⟨b', off', o', hA, -, ho', hd2', m0⟩ := at1 H2.out HQ.out hkl
      injection hA with hA
      injection hA with e1 e2
      subst e1 e2
      have HX' := Lib.hid hx'
      have HO' := Lib.hid ho'
      clear hd1 hx' hd' hd1' ho' hd2'
      by_cases hoo : o = o'
      rotate_left
      · have d0 : (o == o') = false := by simpa using hoo
        have HNX : Hid (∀ (m : Nat) q, m < k + 1 → xs[m]? = some q → ys[m]? = some o → ¬ meetB ⟨x, y, z⟩ q) := fun m q hm h1 h2 => by
          by_cases e : m = k
          · subst e
            rw [HO'.out] at h2
            injection h2 with h2
            exact absurd h2.symm hoo
          · exact HNO.out m q (by omega) h1 h2
        clear hoo
        go_wp2_with fail
        go_quiet (fail)
        go_wp2_with fail
        go_roundw
        case rel => exact ⟨k + 1, by omega, by go_num, HNX.out, bl_drewN HQ.out _⟩
        case measure => simp [intOf]; omega
      subst hoo
      have HQd := Lib.hid HQ.out.drew
      have HKEEP := Lib.hid (fun (W : World) (hW : Below w.heap.size w W) => show W.cell? ⟨b2, off2 + j, none⟩ = some (.int .i64 o) ∧ W.cell? ⟨b2, off2 + k, none⟩ = some (.int .i64 o) ∧ W.cell? ⟨b, off + j * 3, none⟩ = some (.int .i64 x) ∧ W.cell? ⟨b, off + j * 3 + 1, none⟩ = some (.int .i64 y) ∧ W.cell? ⟨b, off + j * 3 + 2, none⟩ = some (.bool z) ∧ W.cell? ⟨b, off + k * 3, none⟩ = some (.int .i64 x') ∧ W.cell? ⟨b, off + k * 3 + 1, none⟩ = some (.int .i64 y') ∧ W.cell? ⟨b, off + k * 3 + 2, none⟩ = some (.bool z') from by
        obtain ⟨u0, u1, u2⟩ := cellB_of H.out hW HX.out
        obtain ⟨v0, v1, v2⟩ := cellB_of H.out hW HX'.out
        exact ⟨cell1_of H2.out hW HO.out, cell1_of H2.out hW HO'.out, u0, u1, u2, v0, v1, v2⟩)
      by_cases hm : meetB ⟨x, y, z⟩ ⟨x', y', z'⟩
      · have HM := Lib.hid hm
        have HNS : Hid (¬ SeatOk xs ys) := fun hh => hh.2.2 o k j _ _ hkj HX'.out HX.out HO'.out HO.out hm
        clear hm
        go_wp2_with fail
        go_region_held3 (fun w' => w'.cell? ⟨b2, off2 + j, none⟩ = some (.int .i64 o) ∧ w'.cell? ⟨b2, off2 + k, none⟩ = some (.int .i64 o) ∧ w'.cell? ⟨b, off + j * 3, none⟩ = some (.int .i64 x) ∧ w'.cell? ⟨b, off + j * 3 + 1, none⟩ = some (.int .i64 y) ∧ w'.cell? ⟨b, off + j * 3 + 2, none⟩ = some (.bool z) ∧ w'.cell? ⟨b, off + k * 3, none⟩ = some (.int .i64 x') ∧ w'.cell? ⟨b, off + k * 3 + 1, none⟩ = some (.int .i64 y') ∧ w'.cell? ⟨b, off + k * 3 + 2, none⟩ = some (.bool z')) (first | exact ⟨l0, m0, g0, g1, g2, q0, q1, q2⟩ | exact HKEEP.out _ HB4.out | go_keep)
          (first | (go_at_call 48; (with_reducible_and_instances refine (l4Meet_any ⟨x, y, z⟩ ⟨x', y', z'⟩ _).mono ?_); intro e w4 hp; obtain ⟨rfl, hb4⟩ := hp.yes HM.out; have HB4 := Lib.hid (below_trans HQd.out hb4); clear hp hb4) | fail)
        go_wp2_with fail
        go_ret
        exact onlyB_false (fun hh => HNS.out hh.2) HB4.out
      · have HM : Hid (¬ meetB ⟨x, y, z⟩ ⟨x', y', z'⟩) := hm
        have HNX : Hid (∀ (m : Nat) q, m < k + 1 → xs[m]? = some q → ys[m]? = some o → ¬ meetB ⟨x, y, z⟩ q) := fun m q hmk h1 h2 => by
          by_cases e : m = k
          · subst e
            rw [HX'.out] at h1
            injection h1 with h1
            subst h1
            exact hm
          · exact HNO.out m q (by omega) h1 h2
        clear hm
        go_wp2_with fail
        go_region_held3 (fun w' => w'.cell? ⟨b2, off2 + j, none⟩ = some (.int .i64 o) ∧ w'.cell? ⟨b2, off2 + k, none⟩ = some (.int .i64 o) ∧ w'.cell? ⟨b, off + j * 3, none⟩ = some (.int .i64 x) ∧ w'.cell? ⟨b, off + j * 3 + 1, none⟩ = some (.int .i64 y) ∧ w'.cell? ⟨b, off + j * 3 + 2, none⟩ = some (.bool z) ∧ w'.cell? ⟨b, off + k * 3, none⟩ = some (.int .i64 x') ∧ w'.cell? ⟨b, off + k * 3 + 1, none⟩ = some (.int .i64 y') ∧ w'.cell? ⟨b, off + k * 3 + 2, none⟩ = some (.bool z')) (first | exact ⟨l0, m0, g0, g1, g2, q0, q1, q2⟩ | exact HKEEP.out _ HB4.out | go_keep)
          (first | (go_at_call 48; (with_reducible_and_instances refine (l4Meet_any ⟨x, y, z⟩ ⟨x', y', z'⟩ _).mono ?_); intro e w4 hp; obtain ⟨rfl, hb4⟩ := hp.no HM.out; have HB4 := Lib.hid (below_trans HQd.out hb4); clear hp hb4) | fail)
        go_wp2_with fail
        go_roundw
        case rel => exact ⟨k + 1, by omega, by go_num, HNX.out, HB4.out⟩
        case measure => simp [intOf]; omega
end Go.Proofs.Ytkknfhabfmpogaa
