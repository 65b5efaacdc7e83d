/- Contracts: slices.Sort of at most twelve integers. -/
import Derived.Test.YtngbpdijempkpaaGWalkB
import Derived.Test.YtngbpdijempkpaaSortP
import Derived.RegionTactic
import Derived.ChangeAlike
set_option linter.unusedVariables false
namespace Go.Proofs.Ytngbpdijempkpaa
open Go.RowKit

set_option maxRecDepth 20000 in
set_option maxHeartbeats 800000 in
theorem lessI_any (x y : Int) (w : World) : Calls Try.prog 82 #[.int .i64 x, .int .i64 y] w (SameB (x < y) w) := by
  have hn : ∀ z W, Calls Try.prog 92 #[.int .i64 z] W (Same (.bool false) W) := by
    intro z W
    go_enter Try.func92, Try.ntmps92
    go_wp2
    go_ret
    exact ⟨rfl, rfl⟩
  have HN := Lib.hid hn
  clear hn
  go_enter Try.func82, Try.ntmps82
  go_wp2_with (go_at_call 92; refine (HN.out _ _).mono ?_; rintro e w2 ⟨rfl, rfl⟩)
  all_goals
    go_ret
    exact ⟨_, rfl, by simp, rfl⟩
theorem lessQ_yes (x y : Int) (w : World) (h : x < y) (d : Nat) : Calls Try.prog 82 #[.int .i64 x, .int .i64 y] (w.drewN d) fun e w' => e = .returned (.bool true) ∧ w' = w.drewN d :=
  (lessI_any x y (w.drewN d)).mono fun _ _ hp => by obtain ⟨a, b⟩ := hp.yes h; exact ⟨a, b.symm⟩
theorem lessQ_no (x y : Int) (w : World) (h : ¬ x < y) (d : Nat) : Calls Try.prog 82 #[.int .i64 x, .int .i64 y] (w.drewN d) fun e w' => e = .returned (.bool false) ∧ w' = w.drewN d :=
  (lessI_any x y (w.drewN d)).mono fun _ _ hp => by obtain ⟨a, b⟩ := hp.no h; exact ⟨a, b.symm⟩
theorem grown_drewN {w w' : World} {row : Option Nat} (h : w.grownBy w' row) (n : Nat) : w.grownBy (w'.drewN n) row := ⟨h.os, h.tape, h.output, h.size, h.block⟩
theorem grown_drew {w w' : World} {row : Option Nat} (h : w.grownBy w' row) : w.grownBy w'.drew row := ⟨h.os, h.tape, h.output, h.size, h.block⟩

/-- How a sort in place ends. -/
def Sorts (base g n c : Nat) (ys : List Int) (w : World) (e : Ending) (w' : World) : Prop :=
  e = .returned (.tuple #[]) ∧ OwnE 1 encI 3 base w' (.slice (some ⟨g, 0, none⟩) n c) ys ∧ w.grownBy w' (some g)

set_option maxRecDepth 20000 in
set_option maxHeartbeats 3200000 in
theorem insSortI_any (base g n c : Nat) (l : List Int) (w : World) (h : OwnE 1 encI 3 base w (.slice (some ⟨g, 0, none⟩) n c) l) (hl : l.length = n) (hn : n ≤ 16777216) :
    Calls Try.prog 76 #[.slice (some ⟨g, 0, none⟩) n c, .int .i64 0, .int .i64 n] w (Sorts base g n c (isort ltI l) w) := by
  have H := Lib.hid h
  have HL := Lib.hid hl
  have HG := Lib.hid (h.lt g rfl)
  clear h hl
  go_enter Try.func76, Try.ntmps76
  go_wp2_with fail
  go_loopw [6, 7] (fun i _ wr => ∃ k : Nat, 1 ≤ k ∧ k ≤ n + 1 ∧ i = .int .i64 k ∧ OwnE 1 encI 3 base wr (.slice (some ⟨g, 0, none⟩) n c) ((sortR ltI (l.take k)).reverse ++ l.drop k) ∧ w.grownBy wr (some g)) (fun i _ _ => n + 1 - (intOf i).toNat)
  case atStart => exact ⟨1, Nat.le_refl _, by omega, rfl, by rw [sortR_one]; exact H.out, World.grownBy.refl _ _⟩
  case round =>
    obtain ⟨i, hi1, hin, rfl, hown, hgr⟩ := hrel
    have HO := Lib.hid hown
    have HR := Lib.hid hgr
    clear hown hgr
    by_cases hlt : i < n
    · obtain ⟨x, hx⟩ : ∃ x, l[i]? = some x := ⟨_, List.getElem?_eq_getElem (by rw [HL.out]; exact hlt)⟩
      have HI0 := Lib.hid (ins_start (less := ltI) hx)
      have HX := Lib.hid hx
      clear hx
      go_wp2_with fail
      go_loopw [7] (fun j wz => ∃ (k : Nat) (cur : List Int), j = .int .i64 k ∧ Ins ltI l i k x cur ∧ OwnE 1 encI 3 base wz (.slice (some ⟨g, 0, none⟩) n c) cur ∧ w.grownBy wz (some g)) (fun j _ => (intOf j).toNat)
      case atStart => exact ⟨i, _, rfl, HI0.out, HO.out, HR.out⟩
      case round =>
        obtain ⟨k, cur, rfl, hins, hcur, hgz⟩ := hrel
        have hkl := insL_len hins (by rw [HL.out]; exact hlt)
        have hki : k ≤ i := hkl.2
        have hcl : cur.length = n := by rw [hkl.1, HL.out]
        have HCL := Lib.hid hcl
        have HIN := Lib.hid hins
        have HC := Lib.hid hcur
        have HZ := Lib.hid hgz
        have c0 := hcur.cell1 (ins_at hins)
        have f0 := hcur.frozen
        clear hkl hcl hins hcur hgz
        by_cases hk0 : k = 0
        · subst hk0
          have HE := Lib.hid (ins_zero HIN.out)
          have hd : decide ((0 : Int) < 0) = false := rfl
          go_wp2_with fail
          go_quiet (fail)
          go_wp2
          go_roundw
          case rel => exact ⟨i + 1, by omega, by omega, by go_num, by rw [← HE.out]; exact HC.out, grown_drewN HZ.out _⟩
          case measure => simp [intOf]; omega
        · obtain ⟨k, rfl⟩ : ∃ k', k = k' + 1 := ⟨k - 1, by omega⟩
          obtain ⟨y, hy, hly, hln⟩ := ins_prev HIN.out
          have c1 := HC.out.cell1 hy
          have x1 : IntKind.i64.wrap ((k : Int) + 1 - 1) = (k : Int) := by rw [IntWalk.i64_in _ (by omega)]; omega
          have x2 : (0 : Int) < (k : Int) + 1 := by omega
          have x3 : (0 : Int) ≤ (k : Int) + 1 := by omega
          have x4 : (k : Int) + 1 < (n : Int) := by omega
          have x5 : ((k : Int) + 1).toNat = k + 1 := by omega
          have x6 : (0 : Int) ≤ (k : Int) := by omega
          have x7 : (k : Int) < (n : Int) := by omega
          have HLY := Lib.hid hly
          have HLN := Lib.hid hln
          clear hy hly hln
          by_cases hxy : x < y
          · have HQ := Lib.hid (fun W d => lessQ_yes x y W hxy d)
            have HN := Lib.hid (HLY.out (by simpa [ltI] using hxy))
            clear hxy
            go_wp2_with fail
            go_quiet ((go_at_call 82; exact Calls.quiet_of_same (HQ.out _ _)))
            have HCv : Hid (OwnE 1 encI 3 base (wr.drewN nq) (.slice (some ⟨g, 0, none⟩) n c) cur) := HC.out
            have HZv := Lib.hid (grown_drewN HZ.out nq)
            have d0 : (wr.drewN nq).cell? ⟨g, k + 1, none⟩ = some (.int .i64 x) := c0
            have d1 : (wr.drewN nq).cell? ⟨g, k, none⟩ = some (.int .i64 y) := c1
            have e0 : ∀ j, (wr.drewN nq).frozen? ⟨g, j, none⟩ = false := f0
            clear HC HZ c0 c1 f0
            generalize wr.drewN nq = wv at *
            clear nq
            go_wp2_with fail
            go_region
            go_wp2
            go_roundw
            case rel =>
              have s1 := own1_set HCv.out HCL.out (k + 1) y
              have s2 := own1_set s1.1 (by rw [List.length_set]; exact HCL.out) k x
              exact ⟨k, _, by go_num, HN.out, s2.1.drew, grown_drew (grown_trans (grown_trans HZv.out s1.2) s2.2)⟩
            case measure => simp [intOf]
          · have HQ := Lib.hid (fun W d => lessQ_no x y W hxy d)
            have HE := Lib.hid (HLN.out (by simpa [ltI] using hxy))
            clear hxy
            go_wp2_with fail
            go_quiet ((go_at_call 82; exact Calls.quiet_of_same (HQ.out _ _)))
            go_wp2
            go_roundw
            case rel => exact ⟨i + 1, by omega, by omega, by go_num, by rw [← HE.out]; exact HC.out, grown_drewN HZ.out _⟩
            case measure => simp [intOf]; omega
    · have e1 : l.take i = l := List.take_of_length_le (by rw [HL.out]; omega)
      have e2 : l.drop i = [] := List.drop_eq_nil_of_le (by rw [HL.out]; omega)
      rw [e1, e2, List.append_nil] at HO
      clear e1 e2
      go_wp2
      go_end0
      exact ⟨rfl, HO.out, HR.out⟩

set_option maxRecDepth 20000 in
set_option maxHeartbeats 800000 in
theorem pdqI_any (base g n c : Nat) (l : List Int) (lim : Int) (w : World) (h : OwnE 1 encI 3 base w (.slice (some ⟨g, 0, none⟩) n c) l) (hl : l.length = n) (hn : n ≤ 12) :
    Calls Try.prog 74 #[.slice (some ⟨g, 0, none⟩) n c, .int .i64 0, .int .i64 n, .int .i64 lim] w (Sorts base g n c (isort ltI l) w) := by
  have HI := Lib.hid (insSortI_any base g n c l w h hl (by omega))
  have h12 : (n : Int) ≤ 12 := by omega
  clear h hl
  go_enter Try.func74, Try.ntmps74
  go_wp2_with fail
  go_loopw [1, 2, 3] (fun a b d wr => a = .int .i64 0 ∧ b = .int .i64 n ∧ d = .int .i64 lim ∧ w = wr) (fun _ _ _ _ => 0)
  case atStart => exact ⟨rfl, rfl, rfl, rfl⟩
  case round =>
    obtain ⟨rfl, rfl, rfl, rfl⟩ := hrel
    go_wp2_with (go_at_call 76; refine HI.out.mono ?_; rintro e w2 ⟨rfl, ho, hg⟩; have HO := Lib.hid ho; have HGR := Lib.hid hg; clear ho hg)
    go_end0
    exact ⟨rfl, HO.out, HGR.out⟩
set_option maxRecDepth 20000 in
set_option maxHeartbeats 3200000 in
theorem bitsLen64_any (n : Nat) (w : World) (hn : n ≤ 12) : Calls Try.prog 86 #[.int .u64 n] w fun e w' => ∃ r : Int, e = .returned (.int .i64 r) ∧ w = w' := by
  rcases (by omega : n = 0 ∨ n = 1 ∨ n = 2 ∨ n = 3 ∨ n = 4 ∨ n = 5 ∨ n = 6 ∨ n = 7 ∨ n = 8 ∨ n = 9 ∨ n = 10 ∨ n = 11 ∨ n = 12) with rfl | rfl | rfl | rfl | rfl | rfl | rfl | rfl | rfl | rfl | rfl | rfl | rfl
  all_goals
    go_enter Try.func86, Try.ntmps86
    go_wp2
    go_ret
    exact ⟨_, rfl, rfl⟩
/-- It returns a number; the world is as it was. -/
def SomeNum (w : World) (e : Ending) (w' : World) : Prop := ∃ r : Int, e = .returned (.int .i64 r) ∧ w = w'
set_option maxRecDepth 20000 in
set_option maxHeartbeats 800000 in
theorem bitsLen_any (n : Nat) (w : World) (hn : n ≤ 12) : Calls Try.prog 75 #[.int .u64 n] w (SomeNum w) := by
  have HB := Lib.hid (bitsLen64_any n w hn)
  go_enter Try.func75, Try.ntmps75
  go_wp2_with (go_at_call 86; refine HB.out.mono ?_; rintro e w2 ⟨r, rfl, rfl⟩)
  go_ret
  exact ⟨_, rfl, rfl⟩
set_option maxRecDepth 20000 in
set_option maxHeartbeats 3200000 in
theorem sortI_any (base g n c : Nat) (l : List Int) (w : World) (h : OwnE 1 encI 3 base w (.slice (some ⟨g, 0, none⟩) n c) l) (hl : l.length = n) (hn : n ≤ 12) :
    Calls Try.prog 68 #[.slice (some ⟨g, 0, none⟩) n c] w (Sorts base g n c (isort ltI l) w) := by
  have HP := Lib.hid (fun lim => pdqI_any base g n c l lim w h hl hn)
  have h12 : (n : Int) ≤ 12 := by omega
  clear h hl
  go_enter Try.func68, Try.ntmps68
  go_wp2_with fail
  refine (bitsLen_any n w hn).mono ?_
  rintro e w2 ⟨r, rfl, rfl⟩
  go_wp2_with fail
  refine (HP.out r).mono ?_
  rintro e w2 ⟨rfl, ho, hg⟩
  have HO := Lib.hid ho
  have HGR := Lib.hid hg
  clear ho hg
  go_wp2
  go_end0
  exact ⟨rfl, HO.out, HGR.out⟩
end Go.Proofs.Ytngbpdijempkpaa
