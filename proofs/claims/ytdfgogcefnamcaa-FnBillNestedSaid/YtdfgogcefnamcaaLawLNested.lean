/- Walk of FnBillNested. -/
import Derived.Test.YtdfgogcefnamcaaDrawO
import Derived.Test.YtdfgogcefnamcaaBMoves
import Derived.Test.YtdfgogcefnamcaaStkR
import Derived.Deep.QuietTactic
import Derived.BigQuiet
import Derived.Deep.Cut
set_option linter.unusedVariables false
namespace Go.Proofs.Ytdfgogcefnamcaa
open Go.RowKit

set_option maxRecDepth 20000 in
set_option maxHeartbeats 6400000 in
theorem lawFnBillNested_walk (A0 : Option Addr) (len0 cap0 : Nat) (xs0 : List Int) (A1 : Option Addr) (len1 cap1 : Nat) (xs1 : List Int) (w : World) (h0 : SlE 1 encU w A0 len0 xs0) (hb0 : Bytes xs0) (hc0 : len0 ≤ cap0) (h1 : SlE 1 encU w A1 len1 xs1) (hb1 : Bytes xs1) (hc1 : len1 ≤ cap1) :
    Calls Try.prog 10 #[.slice A0 len0 cap0, .slice A1 len1 cap1] w (Only (.bool true) w) := by
  have H0 := Lib.hid h0
  have HB0 := Lib.hid hb0
  clear h0 hb0 h1 hb1
  by_cases hbig : (len0 : Int) ≤ 1048576
  rotate_left
  · go_enter Try.func10, Try.ntmps10
    go_wp2_with fail
    go_ret
    exact ⟨rfl, Below.refl _ _⟩
  by_cases hbig1 : (len1 : Int) ≤ 1048576
  rotate_left
  · go_enter Try.func10, Try.ntmps10
    go_wp2_with fail
    go_ret
    exact ⟨rfl, Below.refl _ _⟩
  go_enter Try.func10, Try.ntmps10
  go_wp2_with fail
  refine (drawBillNested_any A0 len0 cap0 xs0 w H0.out HB0.out (by omega) hc0).mono ?_
  rintro e w1 ⟨n, A, len, c, xs, rfl, n0, n1, hl, hlc, hs, hb⟩
  clear H0 HB0
  obtain ⟨n, rfl⟩ : ∃ i : Nat, n = i := ⟨n.toNat, by omega⟩
  have HL := Lib.hid hs.len
  have S1 := Lib.hid hs
  have B1 := Lib.hid hb
  clear hs hb
  have HMV : Hid (∀ (zs : List T3) (l : Nat) (A' : Option Addr) (c' : Nat) (W : World), BillOk n zs → SlE 3 enc3 W A' l zs → Calls Try.prog 37 #[.int .i64 n, .slice A' l c'] W (Only (.int .i64 (mv zs)) W)) := fun zs l A' c' W hB h => by
    have := implBillMoves_yes A' n l c' zs W h hB
    rw [moves_eq hB.2.2.2.1, mvs_mv] at this
    exact this
  have HMS : Hid (∀ (zs : List T3) (l : Nat) (A' : Option Addr) (c' : Nat) (W : World), BillOk n zs → SlE 3 enc3 W A' l zs → Calls Try.prog 38 #[.int .i64 n, .slice A' l c'] W (Only (.int .i64 (mv zs)) W)) := fun zs l A' c' W hB h => by
    have := specBillMoves_yes A' n l c' zs W h hB
    rw [moves_eq hB.2.2.2.1, mvs_mv] at this
    exact this
  by_cases hok : BillOk n xs
  rotate_left
  · have HN := Lib.hid hok
    clear hok
    have HI := Lib.hid (fun (W : World) (h : SlE 3 enc3 W A len xs) => implBillNested_of A n (-1) len c W (implBillMoves_no A n len c xs W h (by omega) HN.out))
    have HS := Lib.hid (fun (W : World) (h : SlE 3 enc3 W A len xs) => specBillNested_of A n (-1) len c W (specBillMoves_no A n len c xs W h (by omega) HN.out))
    have e0 : ((-1 : Int) == 0) = false := rfl
    rw [e0] at HI HS
    go_wp2_with fail
    refine (HI.out w1 S1.out).mono ?_
    rintro e w2 ⟨rfl, hb⟩
    have S2 := Lib.hid (S1.out.below hb)
    have B2 := Lib.hid (below_trans B1.out hb)
    clear hb S1 B1
    go_wp2_with fail
    refine (HS.out w2 S2.out).mono ?_
    rintro e w3 ⟨rfl, hb⟩
    have S3 := Lib.hid (S2.out.below hb)
    have B3 := Lib.hid (below_trans B2.out hb)
    clear hb S2 B2
    go_wp2_with fail
    go_ret
    exact ⟨rfl, B3.out⟩
  have HOK := Lib.hid hok
  have HI := Lib.hid (fun (W : World) (h : SlE 3 enc3 W A len xs) => implBillNested_of A n (mv xs) len c W (HMV.out xs len A c W HOK.out h))
  have HS := Lib.hid (fun (W : World) (h : SlE 3 enc3 W A len xs) => specBillNested_of A n (mv xs) len c W (HMS.out xs len A c W HOK.out h))
  by_cases hm : mv xs = 0
  rotate_left
  · have e0 : (mv xs == 0) = false := by simpa using hm
    rw [e0] at HI HS
    clear e0 hm hok
    go_wp2_with fail
    refine (HI.out w1 S1.out).mono ?_
    rintro e w2 ⟨rfl, hb⟩
    have S2 := Lib.hid (S1.out.below hb)
    have B2 := Lib.hid (below_trans B1.out hb)
    clear hb S1 B1
    go_wp2_with fail
    refine (HS.out w2 S2.out).mono ?_
    rintro e w3 ⟨rfl, hb⟩
    have S3 := Lib.hid (S2.out.below hb)
    have B3 := Lib.hid (below_trans B2.out hb)
    clear hb S2 B2
    go_wp2_with fail
    go_ret
    exact ⟨rfl, B3.out⟩
  have e0 : (mv xs == 0) = true := by simp [hm]
  rw [e0] at HI HS
  obtain ⟨k, hk, hkq⟩ : ∃ k : Nat, k ≤ len ∧ (len1 : Int) % ((len : Int) + 1) = k := ⟨len1 % (len + 1), by have := Nat.mod_lt len1 (show 0 < len + 1 by omega); omega, by rw [Int.natCast_emod]; rfl⟩
  have HT := Lib.hid (bill_sub hok (List.take_sublist k xs))
  have hmt : mv (xs.take k) = 0 := by
    have h1 := mv_sub (List.take_sublist k xs)
    have h2 := mv_nonneg (xs.take k)
    omega
  have HTL := Lib.hid (show (xs.take k).length = k by rw [List.length_take, HL.out]; omega)
  have HNE := Lib.hid (fun (i j : Nat) (p q : T3) (hi : xs[i]? = some p) (hj : xs[j]? = some q) => mv_nested hm hi hj)
  have HNT := Lib.hid (fun (W : World) (h : SlE 3 enc3 W A k (xs.take k)) => implBillNested_of A n (mv (xs.take k)) k c W (HMV.out _ k A c W HT.out h))
  have e1 : (mv (xs.take k) == 0) = true := by simp [hmt]
  rw [e1] at HNT
  have HMX := Lib.hid (fun (W : World) (h : SlE 3 enc3 W A len xs) => HMV.out xs len A c W HOK.out h)
  rw [hm] at HMX
  have i1 : (0 : Int) ≤ (k : Int) := by omega
  have i2 : (k : Int) ≤ (c : Int) := by omega
  have i3 : (k : Int) ≤ (len : Int) := by omega
  clear hok e0 e1 hm hmt
  go_wp2_with fail
  refine (HI.out w1 S1.out).mono ?_
  rintro e w2 ⟨rfl, hb⟩
  have S2 := Lib.hid (S1.out.below hb)
  have B2 := Lib.hid (below_trans B1.out hb)
  clear hb S1 B1
  go_wp2_with fail
  refine (HS.out w2 S2.out).mono ?_
  rintro e w3 ⟨rfl, hb⟩
  have S3 := Lib.hid (S2.out.below hb)
  have B3 := Lib.hid (below_trans B2.out hb)
  clear hb S2 B2
  go_wp2_with fail
  rw [hkq]
  clear hkq
  obtain ⟨W0, rfl⟩ : ∃ W0, W0 = w3 := ⟨_, rfl⟩
  go_loopw [10, 11] (fun i _ wr => ∃ a : Nat, a ≤ len ∧ i = .int .i64 a ∧ Below W0.heap.size W0 wr) (fun i _ _ => len - (intOf i).toNat)
  case atStart => exact ⟨0, by omega, rfl, Below.refl _ _⟩
  case round =>
    obtain ⟨a, ha, rfl, hbr⟩ := hrel
    have HR := Lib.hid hbr
    obtain ⟨W1, rfl⟩ : ∃ W1, W1 = wr := ⟨_, rfl⟩
    clear hbr
    by_cases hlt : a < len
    · go_wp2_with fail
      go_loopw [11] (fun i wr => ∃ b : Nat, b ≤ len ∧ i = .int .i64 b ∧ Below W0.heap.size W0 wr) (fun i _ => len - (intOf i).toNat)
      case atStart => exact ⟨0, by omega, rfl, HR.out⟩
      case round =>
        obtain ⟨b, hb, rfl, hbr⟩ := hrel
        have HR2 := Lib.hid hbr
        clear hbr
        by_cases hlb : b < len
        · obtain ⟨bb, off, x, y, z, rfl, hbl, hx, hd, g0, g1, g2⟩ := at3 S3.out HR2.out hlt
          obtain ⟨bb', off', x', y', z', hA, hbl', hx', hd', k0, k1, k2⟩ := at3 S3.out HR2.out hlb
          injection hA with hA
          injection hA with ea eb
          subst ea eb
          have HN := Lib.hid (HNE.out a b _ _ hx hx')
          clear hx hd hx' hd' g2 k2
          by_cases c1 : x < x'
          · by_cases c2 : x' < y
            · have c3 : ¬ y < y' := fun h => HN.out ⟨c1, c2, h⟩
              go_wp2_with fail
              go_quiet (fail)
              go_wp2_with fail
              go_roundw
              case rel => exact ⟨b + 1, by omega, by go_num, bl_drewN HR2.out _⟩
              case measure => simp [intOf]; omega
            · have d2 : decide (x' < y) = false := by simpa using c2
              go_wp2_with fail
              go_quiet (fail)
              go_wp2_with fail
              go_roundw
              case rel => exact ⟨b + 1, by omega, by go_num, bl_drewN HR2.out _⟩
              case measure => simp [intOf]; omega
          · have d1 : decide (x < x') = false := by simpa using c1
            go_wp2_with fail
            go_quiet (fail)
            go_wp2_with fail
            go_roundw
            case rel => exact ⟨b + 1, by omega, by go_num, bl_drewN HR2.out _⟩
            case measure => simp [intOf]; omega
        · have e : b = len := by omega
          subst e
          go_wp2_with fail
          go_roundw
          case rel => exact ⟨a + 1, by omega, by go_num, HR2.out⟩
          case measure => simp [intOf]; omega
    · have e : a = len := by omega
      subst e
      have S4 := Lib.hid (S3.out.below HR.out)
      have T4 := Lib.hid (S4.out.take hk)
      have B4 := Lib.hid (below_trans B3.out HR.out)
      obtain ⟨w4, rfl⟩ : ∃ w, w = W1 := ⟨_, rfl⟩
      clear HR
      go_wp2_with fail
      refine (HNT.out w4 T4.out).mono ?_
      rintro e w5 ⟨rfl, hb⟩
      have S5 := Lib.hid (S4.out.below hb)
      have B5 := Lib.hid (below_trans B4.out hb)
      clear hb S4 T4 B4
      go_wp2_with fail
      refine (HMX.out w5 S5.out).mono ?_
      rintro e w6 ⟨rfl, hb⟩
      have S6 := Lib.hid (S5.out.below hb)
      have B6 := Lib.hid (below_trans B5.out hb)
      clear hb S5 B5
      go_wp2_with fail
      go_ret
      exact ⟨rfl, B6.out⟩
end Go.Proofs.Ytdfgogcefnamcaa
