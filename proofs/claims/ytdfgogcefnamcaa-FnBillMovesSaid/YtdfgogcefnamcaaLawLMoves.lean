/- Walk of FnBillMoves. -/
import Derived.Test.YtdfgogcefnamcaaDrawC
import Derived.Test.YtdfgogcefnamcaaBMovesB
import Derived.Test.YtdfgogcefnamcaaStkR
set_option linter.unusedVariables false
namespace Go.Proofs.Ytdfgogcefnamcaa
open Go.RowKit

set_option maxRecDepth 20000 in
set_option maxHeartbeats 6400000 in
theorem lawFnBillMoves_walk (A0 : Option Addr) (len0 cap0 : Nat) (xs0 : List Int) (w : World) (h0 : SlE 1 encU w A0 len0 xs0) (hb0 : Bytes xs0) (hc0 : len0 ≤ cap0) :
    Calls Try.prog 8 #[.slice A0 len0 cap0] w (Only (.bool true) w) := by
  have H0 := Lib.hid h0
  have HB0 := Lib.hid hb0
  clear h0 hb0
  by_cases hbig : (len0 : Int) ≤ 1048576
  rotate_left
  · go_enter Try.func8, Try.ntmps8
    go_wp2_with fail
    go_ret
    exact ⟨rfl, Below.refl _ _⟩
  go_enter Try.func8, Try.ntmps8
  go_wp2_with fail
  refine (drawBillMoves_any A0 len0 cap0 xs0 w H0.out HB0.out (by omega) hc0).mono ?_
  rintro e w1 ⟨n, v, xs, rfl, n0, n1, hl, hown, hb⟩
  clear H0 HB0
  obtain ⟨n, rfl⟩ : ∃ i : Nat, n = i := ⟨n.toNat, by omega⟩
  obtain ⟨A, c, rfl, -, hlc⟩ := hown.slc enc3_len rfl
  generalize hlen : xs.length = len at *
  have HL := Lib.hid hlen
  have S1 := Lib.hid (sl_of_own_at enc3_len hown hlen)
  have B1 := Lib.hid hb
  clear hown hb hlen
  by_cases hok : BillOk n xs
  rotate_left
  · have HN := Lib.hid hok
    clear hok
    go_wp2_with fail
    refine (implBillMoves_no A n len c xs w1 S1.out (by omega) HN.out).mono ?_
    rintro e w2 ⟨rfl, hb⟩
    have S2 := Lib.hid (S1.out.below hb)
    have B2 := Lib.hid (below_trans B1.out hb)
    clear hb S1 B1
    go_wp2_with fail
    refine (specBillMoves_no A n len c xs w2 S2.out (by omega) HN.out).mono ?_
    rintro e w3 ⟨rfl, hb⟩
    have S3 := Lib.hid (S2.out.below hb)
    have B3 := Lib.hid (below_trans B2.out hb)
    clear hb S2 B2
    go_wp2_with fail
    go_ret
    exact ⟨rfl, B3.out⟩
  have HOK := Lib.hid hok
  have HIM := Lib.hid (fun (W : World) (h : SlE 3 enc3 W A len xs) => implBillMoves_yes A n len c xs W h HOK.out)
  have HSP := Lib.hid (fun (W : World) (h : SlE 3 enc3 W A len xs) => specBillMoves_yes A n len c xs W h HOK.out)
  rw [moves_eq hok.2.2.2.1] at HIM HSP
  have HME : Hid (mvTo xs len = mvs xs) := by rw [← HL.out]; exact mvTo_end xs
  have hmb := mvTo_bd xs len
  rw [HME.out, HL.out] at hmb
  have hmm : (len : Int) * len ≤ 8 * 8 := Int.mul_le_mul (by omega) (by omega) (by omega) (by omega)
  obtain ⟨m0, m1⟩ := hmb
  have m2 : mvs xs ≤ 64 := by omega
  clear hok m1 hmm
  go_wp2_with fail
  refine (HIM.out w1 S1.out).mono ?_
  rintro e w2 ⟨rfl, hb⟩
  have S2 := Lib.hid (S1.out.below hb)
  have B2 := Lib.hid (below_trans B1.out hb)
  clear hb S1 B1
  go_wp2_with fail
  refine (HSP.out w2 S2.out).mono ?_
  rintro e w3 ⟨rfl, hb⟩
  have S3 := Lib.hid (S2.out.below hb)
  have B3 := Lib.hid (below_trans B2.out hb)
  clear hb S2 B2
  obtain ⟨W0, rfl⟩ : ∃ W0, W0 = w3 := ⟨_, rfl⟩
  have HMB := Lib.hid (fun (i : Nat) (h : i ≤ len) => (show 0 ≤ mvTo xs i ∧ mvTo xs i ≤ 64 by
    have h1 := mvTo_bd xs i
    rw [HL.out] at h1
    have h2 : (i : Int) * len ≤ 8 * 8 := Int.mul_le_mul (by omega) (by omega) (by omega) (by omega)
    omega))
  go_wp2_with fail
  go_loopw [8, 7, 9, 10, 11, 12, 13] (fun i s _ _ _ _ _ wr => ∃ k : Nat, k ≤ len ∧ i = .int .i64 k ∧ s = .int .i64 (mvTo xs k) ∧ Below W0.heap.size W0 wr) (fun i _ _ _ _ _ _ _ => len - (intOf i).toNat)
  case atStart => exact ⟨0, by omega, rfl, rfl, Below.refl _ _⟩
  case round =>
    obtain ⟨i, hi, rfl, rfl, hbr⟩ := hrel
    have HR := Lib.hid hbr
    obtain ⟨W1, rfl⟩ : ∃ W1, W1 = wr := ⟨_, rfl⟩
    clear hbr
    by_cases hlt : i < len
    · obtain ⟨s0, s1⟩ := HMB.out i hi
      obtain ⟨p, hp⟩ : ∃ p, xs[i]? = some p := ⟨_, List.getElem?_eq_getElem (by rw [HL.out]; exact hlt)⟩
      have HP := Lib.hid hp
      have HMN := Lib.hid (mvTo_next hp)
      have HCN := Lib.hid (fun (k : Nat) (q : T3) (h : xs[k]? = some q) => cntTo_next (i := i) (p := p) h)
      have HCB := Lib.hid (fun (k : Nat) => cntTo_bd xs (pk p i) k)
      rw [HL.out] at HMN
      clear hp
      generalize mvTo xs i = S at *
      go_wp2_with fail
      go_loopw [9, 7, 10, 11, 12, 13] (fun j s _ _ _ _ wr => ∃ k : Nat, k ≤ len ∧ j = .int .i64 k ∧ s = .int .i64 (S + cntTo xs (pk p i) k) ∧ Below W0.heap.size W0 wr) (fun j _ _ _ _ _ _ => len - (intOf j).toNat)
      case atStart => exact ⟨0, by omega, rfl, by simp [cntTo], HR.out⟩
      case round =>
        obtain ⟨k, hk, rfl, rfl, hbr⟩ := hrel
        have HR2 := Lib.hid hbr
        clear hbr
        obtain ⟨t0, t1⟩ := HCB.out k
        by_cases hlk : k < len
        · obtain ⟨b, off, x, y, z, rfl, hbl, hx, hd, g0, g1, g2⟩ := at3 S3.out HR2.out hlt
          obtain ⟨b', off', x', y', z', hA, hbl', hx', hd', k0, k1, k2⟩ := at3 S3.out HR2.out hlk
          injection hA with hA
          injection hA with ea eb
          subst ea eb
          have hpp := HP.out
          rw [hx] at hpp
          injection hpp with hpp
          subst hpp
          have HN := Lib.hid (HCN.out k _ hx')
          have hxy : x < y := (HOK.out.2.2.2.1 _ (mem_at hx)).2.1
          have HIK : Hid (¬ i = k ∨ (x = x' ∧ y = y' ∧ z = z')) := by
            by_cases e : i = k
            · subst e
              rw [hx] at hx'
              injection hx' with hx'
              injection hx' with e1 e2 e3
              exact .inr ⟨e1, e2, e3⟩
            · exact .inl e
          have HB2 := Lib.hid (below_alloc (below_alloc HR2.out (.cells #[.int .i64 x, .int .i64 y, .int .i64 z] 28)) (.cells #[.int .i64 x', .int .i64 y', .int .i64 z'] 28))
          clear hx hd hx' hd'
          generalize cntTo xs (pk ⟨x, y, z⟩ i) k = C at *
          by_cases e : i = k
          · subst e
            have hxx : x' = x ∧ y' = y ∧ z' = z := by have := HIK.out; omega
            obtain ⟨rfl, rfl, rfl⟩ := hxx
            go_wp2_with fail
            go_roundw
            case rel => exact ⟨i + 1, by omega, by go_num, by rw [HN.out]; exact congrArg (Value.int .i64) (by have := HIK.out; dsimp only; split <;> omega), HB2.out⟩
            case measure => simp [intOf]; omega
          · have e1 : ((i : Int) == (k : Int)) = false := by simp; omega
            have e2 : ((i : Int) != (k : Int)) = true := by simp; omega
            rcases Int.lt_trichotomy x x' with a | a | a
            · have a0 := a
              by_cases t : x' < y
              · rcases Int.lt_trichotomy y y' with u | u | u
                · have u0 := u
                  go_wp2_with fail
                  go_roundw
                  case rel => exact ⟨k + 1, by omega, by go_num, by rw [HN.out]; exact congrArg (Value.int .i64) (by have := HIK.out; dsimp only; split <;> omega), HB2.out⟩
                  case measure => simp [intOf]; omega
                · subst u
                  by_cases v : i < k
                  · have v0 := v
                    go_wp2_with fail
                    go_roundw
                    case rel => exact ⟨k + 1, by omega, by go_num, by rw [HN.out]; exact congrArg (Value.int .i64) (by have := HIK.out; dsimp only; split <;> omega), HB2.out⟩
                    case measure => simp [intOf]; omega
                  · have v0 := v
                    go_wp2_with fail
                    go_roundw
                    case rel => exact ⟨k + 1, by omega, by go_num, by rw [HN.out]; exact congrArg (Value.int .i64) (by have := HIK.out; dsimp only; split <;> omega), HB2.out⟩
                    case measure => simp [intOf]; omega
                · have u1 : ¬ y < y' := by omega
                  have u2 : (y' == y) = false := by simp; omega
                  go_wp2_with fail
                  go_roundw
                  case rel => exact ⟨k + 1, by omega, by go_num, by rw [HN.out]; exact congrArg (Value.int .i64) (by have := HIK.out; dsimp only; split <;> omega), HB2.out⟩
                  case measure => simp [intOf]; omega
              · have t0 := t
                go_wp2_with fail
                go_roundw
                case rel => exact ⟨k + 1, by omega, by go_num, by rw [HN.out]; exact congrArg (Value.int .i64) (by have := HIK.out; dsimp only; split <;> omega), HB2.out⟩
                case measure => simp [intOf]; omega
            · subst a
              by_cases v : i < k
              · have v0 := v
                by_cases t : x < y
                · rcases Int.lt_trichotomy y y' with u | u | u
                  · have u0 := u
                    go_wp2_with fail
                    go_roundw
                    case rel => exact ⟨k + 1, by omega, by go_num, by rw [HN.out]; exact congrArg (Value.int .i64) (by have := HIK.out; dsimp only; split <;> omega), HB2.out⟩
                    case measure => simp [intOf]; omega
                  · subst u
                    go_wp2_with fail
                    go_roundw
                    case rel => exact ⟨k + 1, by omega, by go_num, by rw [HN.out]; exact congrArg (Value.int .i64) (by have := HIK.out; dsimp only; split <;> omega), HB2.out⟩
                    case measure => simp [intOf]; omega
                  · have u1 : ¬ y < y' := by omega
                    have u2 : (y' == y) = false := by simp; omega
                    go_wp2_with fail
                    go_roundw
                    case rel => exact ⟨k + 1, by omega, by go_num, by rw [HN.out]; exact congrArg (Value.int .i64) (by have := HIK.out; dsimp only; split <;> omega), HB2.out⟩
                    case measure => simp [intOf]; omega
                · exfalso; omega
              · have v0 := v
                by_cases t : x < y
                · rcases Int.lt_trichotomy y y' with u | u | u
                  · have u0 := u
                    go_wp2_with fail
                    go_roundw
                    case rel => exact ⟨k + 1, by omega, by go_num, by rw [HN.out]; exact congrArg (Value.int .i64) (by have := HIK.out; dsimp only; split <;> omega), HB2.out⟩
                    case measure => simp [intOf]; omega
                  · subst u
                    go_wp2_with fail
                    go_roundw
                    case rel => exact ⟨k + 1, by omega, by go_num, by rw [HN.out]; exact congrArg (Value.int .i64) (by have := HIK.out; dsimp only; split <;> omega), HB2.out⟩
                    case measure => simp [intOf]; omega
                  · have u1 : ¬ y < y' := by omega
                    have u2 : (y' == y) = false := by simp; omega
                    go_wp2_with fail
                    go_roundw
                    case rel => exact ⟨k + 1, by omega, by go_num, by rw [HN.out]; exact congrArg (Value.int .i64) (by have := HIK.out; dsimp only; split <;> omega), HB2.out⟩
                    case measure => simp [intOf]; omega
                · exfalso; omega
            · have a1 : ¬ x < x' := by omega
              have a2 : (x == x') = false := by simp; omega
              by_cases t : x' < y
              · rcases Int.lt_trichotomy y y' with u | u | u
                · have u0 := u
                  go_wp2_with fail
                  go_roundw
                  case rel => exact ⟨k + 1, by omega, by go_num, by rw [HN.out]; exact congrArg (Value.int .i64) (by have := HIK.out; dsimp only; split <;> omega), HB2.out⟩
                  case measure => simp [intOf]; omega
                · subst u
                  by_cases v : i < k
                  · have v0 := v
                    go_wp2_with fail
                    go_roundw
                    case rel => exact ⟨k + 1, by omega, by go_num, by rw [HN.out]; exact congrArg (Value.int .i64) (by have := HIK.out; dsimp only; split <;> omega), HB2.out⟩
                    case measure => simp [intOf]; omega
                  · have v0 := v
                    go_wp2_with fail
                    go_roundw
                    case rel => exact ⟨k + 1, by omega, by go_num, by rw [HN.out]; exact congrArg (Value.int .i64) (by have := HIK.out; dsimp only; split <;> omega), HB2.out⟩
                    case measure => simp [intOf]; omega
                · have u1 : ¬ y < y' := by omega
                  have u2 : (y' == y) = false := by simp; omega
                  go_wp2_with fail
                  go_roundw
                  case rel => exact ⟨k + 1, by omega, by go_num, by rw [HN.out]; exact congrArg (Value.int .i64) (by have := HIK.out; dsimp only; split <;> omega), HB2.out⟩
                  case measure => simp [intOf]; omega
              · exfalso; omega
        · have e : k = len := by omega
          subst e
          rw [← HMN.out]
          clear HCN HCB HMN
          go_wp2_with fail
          go_roundw
          case rel => exact ⟨i + 1, by omega, by go_num, rfl, HR2.out⟩
          case measure => simp [intOf]; omega
    · have e : i = len := by omega
      subst e
      rw [HME.out]
      have B4 := Lib.hid (below_trans B3.out HR.out)
      go_wp2_with fail
      go_ret
      exact ⟨by simp, B4.out⟩
end Go.Proofs.Ytdfgogcefnamcaa
