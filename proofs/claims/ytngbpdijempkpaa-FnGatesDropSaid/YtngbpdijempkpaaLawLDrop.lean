/- Walk of FnGatesDrop. -/
import Derived.Test.YtngbpdijempkpaaDrawI
import Derived.Test.YtngbpdijempkpaaSameG
import Derived.Test.YtngbpdijempkpaaGWalkD
import Derived.Test.YtngbpdijempkpaaGWalkE
import Derived.Test.YtngbpdijempkpaaTPlainF
set_option linter.unusedVariables false
namespace Go.Proofs.Ytngbpdijempkpaa
open Go.RowKit

set_option maxRecDepth 20000 in
set_option maxHeartbeats 6400000 in
theorem lawFnGatesDrop_walk (A0 : Option Addr) (len0 cap0 : Nat) (xs0 : List Int) (w : World) (h0 : SlE 1 encU w A0 len0 xs0) (hb0 : Bytes xs0) (hc0 : len0 ≤ cap0) :
    Calls Try.prog 3 #[.slice A0 len0 cap0] w (Only (.bool true) w) := by
  have H0 := Lib.hid h0
  have HB0 := Lib.hid hb0
  clear h0 hb0
  by_cases hbig : (len0 : Int) ≤ 1048576
  rotate_left
  · go_enter Try.func3, Try.ntmps3
    go_wp2_with fail
    go_ret
    exact ⟨rfl, Below.refl _ _⟩
  go_enter Try.func3, Try.ntmps3
  go_wp2_with fail
  refine (drawDrop_any A0 len0 cap0 xs0 w H0.out HB0.out (by omega) hc0).mono ?_
  rintro e w1 ⟨v, xs, k, rfl, hl, -, k0, k1, hown, hb1⟩
  obtain ⟨A, c, rfl, -, hlc⟩ := hown.slc enc3_len rfl
  generalize hlen : xs.length = len at *
  have HL := Lib.hid hlen
  have O1 := Lib.hid hown
  have B1 := Lib.hid hb1
  have Z1 := hb1.size
  clear hown hb1 H0 HB0 hlen
  by_cases hok : GatesOk xs ∧ 0 ≤ k ∧ k < len
  · obtain ⟨hG, hk0, hk1⟩ := hok
    obtain ⟨k, rfl⟩ : ∃ i : Nat, k = i := ⟨k.toNat, by omega⟩
    have HG := Lib.hid hG
    have hkl : k < len := by omega
    have hlen' : (xs.eraseIdx k).length = len - 1 := by rw [List.length_eraseIdx, if_pos (by have := HL.out; omega), HL.out]
    have HL' := Lib.hid hlen'
    obtain ⟨x, y, z, hp⟩ : ∃ x y z, xs[k]? = some ⟨x, y, z⟩ := ⟨_, _, _, List.getElem?_eq_getElem (by have := HL.out; omega)⟩
    have hib := ins_back hG hp
    have HP := Lib.hid hp
    have HIB := Lib.hid hib
    have HAdd : Hid (AddOk (xs.eraseIdx k) ⟨x, y, z⟩) := ⟨gates_sub hG (List.eraseIdx_sublist _ _), by rw [HIB.out]; exact hG⟩
    clear hlen' hp hib hG
    go_wp2_with fail
    refine (implGatesDrop_yes A k len c xs w1 (sl_of_own_at enc3_len O1.out HL.out) (by omega) hlc HG.out hkl).mono ?_
    rintro e w2 ⟨v2, rfl, hown2, hb2⟩
    obtain ⟨A2, c2, rfl, -, hlc2⟩ := hown2.slc enc3_len HL'.out
    have O2 := Lib.hid hown2
    have O1b := Lib.hid (O1.out.below hb2 (Nat.le_refl _))
    have B2 := Lib.hid (below_trans B1.out hb2)
    have Z2 := hb2.size
    clear hown2 hb2 O1 B1
    go_wp2_with fail
    refine (specGatesDrop_yes A k len c xs w2 (sl_of_own_at enc3_len O1b.out HL.out) (by omega) hlc HG.out hkl).mono ?_
    rintro e w3 ⟨v3, rfl, hown3, hb3⟩
    obtain ⟨A3, c3, rfl, -, hlc3⟩ := hown3.slc enc3_len HL'.out
    have O3 := Lib.hid hown3
    have O1c := Lib.hid (O1b.out.below hb3 (Nat.le_refl _))
    have O2c := Lib.hid (O2.out.below hb3 (Nat.le_refl _))
    have B3 := Lib.hid (below_trans B2.out hb3)
    have Z3 := hb3.size
    clear hown3 hb3 O1b O2 B2
    go_wp2_with fail
    refine (sameGates_yes A2 A3 (len - 1) c2 c3 (xs.eraseIdx k) w3 (sl_of_own_at enc3_len O2c.out HL'.out) (sl_of_own_at enc3_len O3.out HL'.out) (by omega)).mono ?_
    rintro e w4 ⟨rfl, hb4⟩
    have O1d := Lib.hid (O1c.out.below hb4 (Nat.le_refl _))
    have O2d := Lib.hid (O2c.out.below hb4 (Nat.le_refl _))
    have B4 := Lib.hid (below_trans B3.out hb4)
    have Z4 := hb4.size
    clear hb4 O1c O2c O3 B3
    obtain ⟨g, rfl, -, hg0, hg1, -⟩ := O1d.out.form (by have := HL.out; omega)
    obtain ⟨q0, q1, q2⟩ := OwnE.cell3 O1d.out HP.out
    go_wp2_with fail
    refine (implGatesAdd_any A2 (len - 1) c2 (xs.eraseIdx k) x y z xs true w4 (sl_of_own_at enc3_len O2d.out HL'.out) (by omega) hlc2 (.inl ⟨rfl, HAdd.out, HIB.out.symm⟩)).mono ?_
    rintro e w5 ⟨v5, rfl, hown5, hb5⟩
    obtain ⟨A5, c5, rfl, -, hlc5⟩ := hown5.slc enc3_len HL.out
    have O5 := Lib.hid hown5
    have O1e := Lib.hid (O1d.out.below hb5 (Nat.le_refl _))
    have B5 := Lib.hid (below_trans B4.out hb5)
    have Z5 := hb5.size
    clear hown5 hb5 O1d O2d B4 q0 q1 q2
    go_wp2_with fail
    refine (sameGates_yes A5 (some ⟨g, 0, none⟩) len c5 c xs w5 (sl_of_own_at enc3_len O5.out HL.out) (sl_of_own_at enc3_len O1e.out HL.out) (by omega)).mono ?_
    rintro e w6 ⟨rfl, hb6⟩
    have B6 := Lib.hid (below_trans B5.out hb6)
    clear hb6 O5 O1e B5
    have x1 : IntKind.i64.wrap ((len : Int) - 1) = ((len - 1 : Nat) : Int) := by rw [IntWalk.i64_in _ (by omega)]; omega
    go_wp2_with fail
    go_ret
    exact ⟨by simp, B6.out⟩
  · have HN := Lib.hid hok
    clear hok
    go_wp2_with fail
    refine (implGatesDrop_no A k len c xs w1 (sl_of_own_at enc3_len O1.out HL.out) (by omega) HN.out).mono ?_
    rintro e w2 ⟨v2, rfl, hown2, hb2⟩
    obtain ⟨A2, c2, rfl, -, hlc2⟩ := hown2.slc enc3_len (n := 0) rfl
    have O2 := Lib.hid hown2
    have O1b := Lib.hid (O1.out.below hb2 (Nat.le_refl _))
    have B2 := Lib.hid (below_trans B1.out hb2)
    clear hown2 hb2 O1 B1
    go_wp2_with fail
    refine (specGatesDrop_no A k len c xs w2 (sl_of_own_at enc3_len O1b.out HL.out) (by omega) HN.out).mono ?_
    rintro e w3 ⟨v3, rfl, hown3, hb3⟩
    obtain ⟨A3, c3, rfl, -, hlc3⟩ := hown3.slc enc3_len (n := 0) rfl
    have O3 := Lib.hid hown3
    have O2c := Lib.hid (O2.out.below hb3 (Nat.le_refl _))
    have B3 := Lib.hid (below_trans B2.out hb3)
    clear hown3 hb3 O1b O2 B2
    go_wp2_with fail
    refine (sameGates_yes A2 A3 0 c2 c3 [] w3 (sl_of_own_at enc3_len O2c.out rfl) (sl_of_own_at enc3_len O3.out rfl) (by omega)).mono ?_
    rintro e w4 ⟨rfl, hb4⟩
    have O2d := Lib.hid (O2c.out.below hb4 (Nat.le_refl _))
    have O3d := Lib.hid (O3.out.below hb4 (Nat.le_refl _))
    have B4 := Lib.hid (below_trans B3.out hb4)
    clear hb4 O2c O3 B3
    go_wp2_with fail
    refine (sameGates_yes A2 A3 0 c2 c3 [] w4 (sl_of_own_at enc3_len O2d.out rfl) (sl_of_own_at enc3_len O3d.out rfl) (by omega)).mono ?_
    rintro e w5 ⟨rfl, hb5⟩
    have B5 := Lib.hid (below_trans B4.out hb5)
    clear hb5 O2d O3d B4
    go_wp2_with fail
    go_ret
    exact ⟨rfl, B5.out⟩
end Go.Proofs.Ytngbpdijempkpaa
