/- Contracts: l6In, GatesValid of reference and program. -/
import Derived.Test.YtngbpdijempkpaaBase
import Derived.Test.YtngbpdijempkpaaGPlain
import Derived.StillTailTactics
import Derived.Deep.QuietTactic
import Derived.BigQuiet
set_option linter.unusedVariables false
namespace Go.Proofs.Ytngbpdijempkpaa
open Go.RowKit

set_option maxHeartbeats 400000 in
theorem l6In_any (n lo hi : Int) (w : World) :
    Calls Try.prog 51 #[.int .i64 n, .int .i64 lo, .int .i64 hi] w (SameB (lo ≤ n ∧ n ≤ hi) w) := by
  go_enter Try.func51, Try.ntmps51
  go_wp2
  all_goals
    go_ret
    exact ⟨_, rfl, by simp <;> omega, rfl⟩

set_option maxHeartbeats 800000 in
theorem specGatesValid_any (A : Option Addr) (len cap : Nat) (xs : List T3) (w : World) (h : SlE 3 enc3 w A len xs) (hn : len ≤ 16777216) :
    Calls Try.prog 50 #[.slice A len cap] w (OnlyB (GatesOk xs) w) := by
  have H := Lib.hid h
  have hxl := h.len
  have HL := Lib.hid hxl
  clear h hxl
  go_enter Try.func50, Try.ntmps50
  go_wp2
  go_loopw [3, 4, 5] (fun l i _ wr => ∃ k : Nat, k ≤ len ∧ i = .int .i64 k ∧ l = .int .i64 (lastM xs k) ∧ (-1 ≤ lastM xs k ∧ lastM xs k ≤ 999) ∧ (∀ i p, i < k → xs[i]? = some p → GOk xs i p) ∧ Below w.heap.size w wr) (fun _ i _ _ => len - (intOf i).toNat)
  case atStart => exact ⟨0, by omega, rfl, rfl, by simp [lastM], fun i p hi => absurd hi (by omega), Below.refl _ _⟩
  case round =>
    obtain ⟨k, hk, rfl, rfl, hlb, hall, hbr⟩ := hrel
    have HR := Lib.hid hbr
    have HA := Lib.hid hall
    clear hbr hall
    by_cases hlt : k < len
    · obtain ⟨b, off, x, y, z, rfl, hbl, hx, hd, h0, h1, h2⟩ := at3 H.out HR.out hlt
      have HX := Lib.hid hx
      have HN := Lib.hid (lastM_next hx)
      have HGN := Lib.hid (fun hc => gok_next hx HA.out hc)
      have HNO := Lib.hid (fun hc => gates_not hx hc)
      clear hd hx
      generalize lastM xs k = m at *
      obtain ⟨hm0, hm1⟩ := hlb
      have x1 : IntKind.i64.wrap (m + 1) = m + 1 := IntWalk.i64_in _ (by omega)
      go_wp2_with (go_at_call 51; refine (l6In_any _ _ _ _).mono ?_; intro e w2 hp; rcases hp.cases with ⟨rfl, hp, rfl⟩ | ⟨rfl, hp, rfl⟩)
      all_goals first
        | (go_ret; exact onlyB_false (HNO.out (by omega)) (below_alloc HR.out _))
        | (go_roundw
           case rel => exact ⟨k + 1, by omega, by go_num, by rw [HN.out], by rw [HN.out]; omega, HGN.out (by omega), below_alloc HR.out _⟩
           case measure => simp [intOf]; omega)
    · have e : k = len := by omega
      subst e
      go_wp2
      go_ret
      exact ⟨_, rfl, by simp only [decide_eq_true_eq]; exact ⟨fun h => gates_all HL.out (by omega) HA.out, fun h => by have := h.1; rw [HL.out] at this; omega⟩, HR.out⟩

set_option maxHeartbeats 800000 in
theorem implGatesValid_any (A : Option Addr) (len cap : Nat) (xs : List T3) (w : World) (h : SlE 3 enc3 w A len xs) (hn : len ≤ 16777216) :
    Calls Try.prog 48 #[.slice A len cap] w (OnlyB (GatesOk xs) w) := by
  have H := Lib.hid h
  have hxl := h.len
  have HL := Lib.hid hxl
  clear h hxl
  by_cases hm : len ≤ 10
  · have hm' : (len : Int) ≤ 10 := by omega
    go_enter Try.func48, Try.ntmps48
    go_wp2
    go_loopw [10, 3, 4] (fun i _ _ wr => ∃ k : Nat, k ≤ len ∧ i = .int .i64 k ∧ (∀ i p, i < k → xs[i]? = some p → GOk xs i p) ∧ Below w.heap.size w wr) (fun i _ _ _ => len - (intOf i).toNat)
    case atStart => exact ⟨0, by omega, rfl, fun i p hi => absurd hi (by omega), Below.refl _ _⟩
    case round =>
      obtain ⟨k, hk, rfl, hall, hbr⟩ := hrel
      have HR := Lib.hid hbr
      have HA := Lib.hid hall
      clear hbr hall
      by_cases hlt : k < len
      · obtain ⟨b, off, x, y, z, rfl, hbl, hx, hd, h0, h1, h2⟩ := at3 H.out HR.out hlt
        have HX := Lib.hid hx
        have HGN := Lib.hid (fun hc => gok_next hx HA.out hc)
        have HNO := Lib.hid (fun hc => gates_not hx hc)
        clear hd hx
        by_cases h0k : k = 0
        · subst h0k
          have hl0 : lastM xs 0 = -1 := rfl
          rw [hl0] at HGN HNO
          simp only [Nat.zero_mul, Nat.add_zero] at h0 h1 h2
          go_wp2
          all_goals first
            | (go_ret; exact onlyB_false (HNO.out (by omega)) (below_alloc HR.out _))
            | skip
          go_quiet (fail)
          go_wp2
          all_goals first
            | (go_ret; exact onlyB_false (HNO.out (by omega)) (below_drewN (below_alloc HR.out _) _))
            | (go_roundw
               case rel => exact ⟨0 + 1, by omega, by go_num, HGN.out (by omega), below_drewN (below_alloc HR.out _) _⟩
               case measure => simp [intOf]; omega)
        · obtain ⟨k', rfl⟩ : ∃ k', k = k' + 1 := ⟨k - 1, by omega⟩
          obtain ⟨b', off', x', y', z', hA', hbl', hx', hd', g0, g1, g2⟩ := at3 H.out HR.out (show k' < len by omega)
          have HN := lastM_next hx'
          injection hA' with hA'
          injection hA' with e1 e2
          subst e1 e2
          rw [HN] at HGN HNO
          clear HN hx' hd'
          have x1 : IntKind.i64.wrap ((k' : Int) + 1 - 1) = (k' : Int) := by rw [IntWalk.i64_in _ (by omega)]; omega
          have x2 : (0 : Int) < (k' : Int) + 1 := by omega
          go_wp2
          all_goals first
            | (go_ret; exact onlyB_false (HNO.out (by omega)) (below_alloc HR.out _))
            | skip
          go_quiet (fail)
          go_wp2
          all_goals first
            | (go_ret; exact onlyB_false (HNO.out (by omega)) (below_drewN (below_alloc HR.out _) _))
            | (go_roundw
               case rel => exact ⟨k' + 1 + 1, by omega, by go_num, HGN.out (by omega), below_drewN (below_alloc HR.out _) _⟩
               case measure => simp [intOf]; omega)
      · have e : k = len := by omega
        subst e
        go_wp2
        go_ret
        exact onlyB_true (gates_all HL.out hm HA.out) HR.out
  · have hm' : 10 < (len : Int) := by omega
    go_enter Try.func48, Try.ntmps48
    go_wp2
    go_ret
    exact onlyB_false (fun hB => hm (by have := hB.1; rw [HL.out] at this; exact this)) (Below.refl _ _)
end Go.Proofs.Ytngbpdijempkpaa
