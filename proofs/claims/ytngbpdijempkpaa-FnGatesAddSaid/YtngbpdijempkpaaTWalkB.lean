/- Contracts: TollValid of the reference. -/
import Derived.Test.YtngbpdijempkpaaTWalkA
set_option linter.unusedVariables false
namespace Go.Proofs.Ytngbpdijempkpaa
open Go.RowKit

/-- Gates, numbers and payments. -/
def PayOk (xs : List T3) (free f t : Int) (paid : List Int) : Prop := TollOk xs free f t ∧ Pays (gAt xs) free (idxIf (inW f t) xs) paid
theorem way_idx {f : T3 → Bool} {xs : List T3} {len : Nat} (hG : GatesOk xs) (hl : xs.length = len) : IdxOf len (idxIf f xs) := fun i hi => by
  obtain ⟨k, rfl, hk, _⟩ := gate_of hG hi
  omega
theorem idx_sub {len : Nat} {a b : List Int} (h : IdxOf len b) (hs : ∀ x ∈ a, x ∈ b) : IdxOf len a := fun i hi => h i (hs i hi)
theorem hasQ_yes (A : Option Addr) (len cap : Nat) (xs : List Int) (n : Int) (w : World) (h : SlE 1 encI w A len xs) (hn : len ≤ 16777216) (hm : n ∈ xs) (d : Nat) :
    Calls Try.prog 62 #[.slice A len cap, .int .i64 n] (w.drewN d) fun e w' => e = .returned (.bool true) ∧ w' = w.drewN d :=
  (l8Has_any A len cap xs n (w.drewN d) (h.drewN d) hn).mono fun _ _ hp => by obtain ⟨a, b⟩ := hp.yes hm; exact ⟨a, b.symm⟩
theorem hasQ_no (A : Option Addr) (len cap : Nat) (xs : List Int) (n : Int) (w : World) (h : SlE 1 encI w A len xs) (hn : len ≤ 16777216) (hm : n ∉ xs) (d : Nat) :
    Calls Try.prog 62 #[.slice A len cap, .int .i64 n] (w.drewN d) fun e w' => e = .returned (.bool false) ∧ w' = w.drewN d :=
  (l8Has_any A len cap xs n (w.drewN d) (h.drewN d) hn).mono fun _ _ hp => by obtain ⟨a, b⟩ := hp.no hm; exact ⟨a, b.symm⟩
/-- The first k are ascending and of the way. -/
def Up (ps paid : List Int) (k : Nat) : Prop := (∀ x ∈ paid.take k, x ∈ ps) ∧ (paid.take k).Pairwise (· < ·)
theorem up_next {ps paid : List Int} {k : Nat} {q p : Int} (h : Up ps paid (k + 1)) (hp : paid[k]? = some p) (hq : paid[k + 1]? = some q) (hm : q ∈ ps) (hlt : p < q) : Up ps paid (k + 1 + 1) := by
  obtain ⟨h1, h2⟩ := h
  refine ⟨fun x hx => ?_, ?_⟩
  · rw [take_next hq, List.mem_append, List.mem_singleton] at hx
    rcases hx with hx | rfl
    · exact h1 x hx
    · exact hm
  · rw [take_next hq]
    refine List.pairwise_append.2 ⟨h2, List.pairwise_singleton _ _, fun x hx y hy => ?_⟩
    rw [List.mem_singleton] at hy
    subst hy
    rw [take_next hp, List.mem_append, List.mem_singleton] at hx
    rcases hx with hx | rfl
    · rw [take_next hp] at h2
      have := (List.pairwise_append.1 h2).2.2 x hx p (by simp)
      omega
    · exact hlt
theorem up_one {ps paid : List Int} {q : Int} (hq : paid[0]? = some q) (hm : q ∈ ps) : Up ps paid (0 + 1) := by
  constructor
  · rw [take_next hq]; simp [hm]
  · rw [take_next hq]; simp
theorem all_next {p : Int → Prop} {ps : List Int} {k : Nat} {q : Int} (h : ps[k]? = some q) (ha : ∀ x ∈ ps.take k, p x) (hq : p q) : ∀ x ∈ ps.take (k + 1), p x := fun x hx => by
  rw [take_next h, List.mem_append, List.mem_singleton] at hx
  rcases hx with hx | rfl
  · exact ha x hx
  · exact hq
theorem not_pays_mem {g : Int → T3} {free : Int} {ps paid : List Int} {k : Nat} {q : Int} (hps : Asc g ps) (hq : paid[k]? = some q) (hm : q ∉ ps) : ¬ Pays g free ps paid := fun h => hm ((pays_asc hps h).2 q (mem_at hq))
theorem not_pays_lt {g : Int → T3} {free : Int} {ps paid : List Int} {k : Nat} {q p : Int} (hps : Asc g ps) (hp : paid[k]? = some p) (hq : paid[k + 1]? = some q) (hlt : ¬ p < q) : ¬ Pays g free ps paid := fun h => by
  have h1 := (pays_asc hps h).1
  have a := List.getElem?_eq_some_iff.1 hp
  have b := List.getElem?_eq_some_iff.1 hq
  have := List.pairwise_iff_getElem.1 h1 k (k + 1) a.1 b.1 (by omega)
  rw [a.2, b.2] at this
  exact hlt this

set_option maxRecDepth 20000 in
set_option maxHeartbeats 3200000 in
theorem specTollValid_any (A B : Option Addr) (len cap m c : Nat) (xs : List T3) (free f t : Int) (paid : List Int) (w : World) (h : SlE 3 enc3 w A len xs) (h' : SlE 1 encI w B m paid) (hn : len ≤ 1048576) (hm : m ≤ 1048576) :
    Calls Try.prog 24 #[.slice A len cap, .int .i64 free, .int .i64 f, .int .i64 t, .slice B m c] w (OnlyB (PayOk xs free f t paid) w) := by
  have H := Lib.hid h
  have H' := Lib.hid h'
  have HXL := Lib.hid h.len
  have HPL := Lib.hid h'.len
  clear h h'
  by_cases hW : TollOk xs free f t
  rotate_left
  · have HW := Lib.hid hW
    clear hW
    obtain ⟨ys, hy⟩ : ∃ ys, (WayOk xs f t ∧ ys = idxIf (inW f t) xs) ∨ (¬ WayOk xs f t ∧ ys = []) := by
      by_cases hy : WayOk xs f t
      · exact ⟨_, .inl ⟨hy, rfl⟩⟩
      · exact ⟨_, .inr ⟨hy, rfl⟩⟩
    have HY := Lib.hid hy
    clear hy
    go_enter Try.func24, Try.ntmps24
    go_wp2_with fail
    refine (specGatesPassed_any A len cap xs f t ys w H.out (by omega) HY.out).mono ?_
    rintro e w1 ⟨v, rfl, hown, hb1⟩
    have HB1 := Lib.hid hb1
    clear hown hb1
    go_wp2_with fail
    refine (l8Ok_any A len cap xs free f t w1 (H.out.below HB1.out) (by omega)).mono ?_
    intro e w2 hp
    obtain ⟨rfl, hb2⟩ := hp.no HW.out
    have HB2 := Lib.hid (below_trans HB1.out hb2)
    clear hb2 hp
    go_wp2
    go_ret
    exact onlyB_false (fun h => HW.out h.1) HB2.out
  · have HW := Lib.hid hW
    have HA := Lib.hid (idxIf_asc (f := inW f t) hW.1.1)
    have HI := Lib.hid (way_idx (f := inW f t) hW.1.1 HXL.out)
    have hpl := Nat.le_trans (idxIf_len (inW f t) xs) (Nat.le_of_eq HXL.out)
    have HPY : Hid (PayOk xs free f t paid ↔ Pays (gAt xs) free (idxIf (inW f t) xs) paid) := ⟨fun h => h.2, fun h => ⟨HW.out, h⟩⟩
    clear hW
    go_enter Try.func24, Try.ntmps24
    go_wp2_with fail
    refine (specGatesPassed_any A len cap xs f t _ w H.out (by omega) (.inl ⟨HW.out.1, rfl⟩)).mono ?_
    generalize idxIf (inW f t) xs = ps at *
    rintro e w1 ⟨v, rfl, hown, hb1⟩
    obtain ⟨A1, c1, rfl, hs1⟩ := hown.sl encI_len
    have HS1 := Lib.hid hs1
    have HB1 := Lib.hid hb1
    clear hown hb1 hs1
    generalize hpq : ps.length = pl at *
    have HPQ := Lib.hid hpq
    clear hpq
    go_wp2_with fail
    refine (l8Ok_any A len cap xs free f t w1 (H.out.below HB1.out) (by omega)).mono ?_
    intro e w2 hp
    obtain ⟨rfl, hb2⟩ := hp.yes HW.out
    have HB2 := Lib.hid (below_trans HB1.out hb2)
    have HS2 := Lib.hid (HS1.out.below hb2)
    clear hb2 hp
    go_wp2_with fail
    go_loopw [12] (fun i wr => ∃ k : Nat, k ≤ m ∧ i = .int .i64 k ∧ Up ps paid k ∧ Below w2.heap.size w2 wr) (fun i _ => m - (intOf i).toNat)
    case atStart => exact ⟨0, by omega, rfl, ⟨by simp, by simp⟩, Below.refl _ _⟩
    case round =>
      obtain ⟨k, hk, rfl, hup, hbr⟩ := hrel
      have HUP := Lib.hid hup
      have HR := Lib.hid hbr
      have HRW := Lib.hid (below_trans HB2.out hbr)
      have HSR := Lib.hid (HS2.out.below hbr)
      clear hup hbr
      by_cases hlt : k < m
      · obtain ⟨b, off, q, rfl, hbl, hx, hd, h0⟩ := at1 H'.out HRW.out hlt
        have HX := Lib.hid hx
        clear hx hd
        by_cases hq : q ∈ ps
        · have HQ := Lib.hid (fun c d => hasQ_yes A1 pl c ps q wr HSR.out (by omega) hq d)
          have HQM := Lib.hid hq
          clear hq
          by_cases h0k : k = 0
          · subst h0k
            simp only [Nat.add_zero] at h0
            go_wp2_with fail
            go_quiet ((go_at_call 62; exact Calls.quiet_of_same (HQ.out _ _)))
            go_wp2
            go_roundw
            case rel => exact ⟨0 + 1, by omega, by go_num, up_one HX.out HQM.out, below_drewN HR.out _⟩
            case measure => simp [intOf]; omega
          · obtain ⟨k', rfl⟩ : ∃ k', k = k' + 1 := ⟨k - 1, by omega⟩
            obtain ⟨b', off', p, hA', hbl', hx', hd', g0⟩ := at1 H'.out HRW.out (show k' < m by omega)
            injection hA' with hA'
            injection hA' with e1 e2
            subst e1 e2
            have HXP := Lib.hid hx'
            clear hx' hd'
            have x1 : IntKind.i64.wrap ((k' : Int) + 1 - 1) = (k' : Int) := by rw [IntWalk.i64_in _ (by omega)]; omega
            have x2 : (0 : Int) < (k' : Int) + 1 := by omega
            by_cases hpq : p < q
            · have hd3 : decide (q ≤ p) = false := by simp; omega
              have HUN := Lib.hid (up_next HUP.out HXP.out HX.out HQM.out hpq)
              go_wp2_with fail
              go_quiet ((go_at_call 62; exact Calls.quiet_of_same (HQ.out _ _)))
              go_wp2
              go_roundw
              case rel => exact ⟨k' + 1 + 1, by omega, by go_num, HUN.out, below_drewN HR.out _⟩
              case measure => simp [intOf]; omega
            · have hpq' : q ≤ p := by omega
              have HNP := Lib.hid (not_pays_lt (free := free) HA.out HXP.out HX.out hpq)
              go_wp2_with fail
              go_quiet ((go_at_call 62; exact Calls.quiet_of_same (HQ.out _ _)))
              go_wp2
              go_ret
              exact onlyB_false (fun h => HNP.out (HPY.out.1 h)) (below_drewN HRW.out _)
        · have HQ := Lib.hid (fun c d => hasQ_no A1 pl c ps q wr HSR.out (by omega) hq d)
          have HNP := Lib.hid (not_pays_mem (free := free) HA.out HX.out hq)
          clear hq
          go_wp2_with fail
          go_quiet ((go_at_call 62; exact Calls.quiet_of_same (HQ.out _ _)))
          go_wp2
          go_ret
          exact onlyB_false (fun h => HNP.out (HPY.out.1 h)) (below_drewN HRW.out _)
      · have hkm : k = m := by omega
        subst hkm
        have HU2 : Hid ((∀ x ∈ paid, x ∈ ps) ∧ paid.Pairwise (· < ·)) := by
          have := HUP.out
          unfold Up at this
          rw [List.take_of_length_le (by have := HPL.out; omega)] at this
          exact this
        have HIP := Lib.hid (idx_sub HI.out HU2.out.1)
        go_wp2_with fail
        go_loopw [13] (fun i wz => ∃ j : Nat, j ≤ pl ∧ i = .int .i64 j ∧ (∀ x ∈ ps.take j, x ∈ paid ∨ Freed (gAt xs) free paid x) ∧ Below wr.heap.size wr wz) (fun i _ => pl - (intOf i).toNat)
        case atStart => exact ⟨0, by omega, rfl, by simp, Below.refl _ _⟩
        case round =>
          obtain ⟨j, hj, rfl, hall, hbz⟩ := hrel
          have HAL := Lib.hid hall
          have HZ := Lib.hid hbz
          have HZW := Lib.hid (below_trans HRW.out hbz)
          clear hall hbz
          by_cases hjl : j < pl
          · obtain ⟨b, off, q, rfl, hbl, hx, hd, h0⟩ := at1 HSR.out HZ.out hjl
            obtain ⟨hq0, hq1⟩ := HI.out q (mem_at hx)
            obtain ⟨q, rfl⟩ : ∃ n : Nat, q = n := ⟨q.toNat, by omega⟩
            have hq1' : q < len := by omega
            have HX := Lib.hid hx
            clear hx hd
            by_cases hq : (q : Int) ∈ paid
            · have HQM := Lib.hid hq
              clear hq
              go_wp2_with (go_at_call 62; refine (l8Has_any _ _ _ _ _ _ (H'.out.below HZW.out) (by omega)).mono ?_; intro e w2 hp; obtain ⟨rfl, rfl⟩ := hp.yes HQM.out)
              go_roundw
              case rel => exact ⟨j + 1, by omega, by go_num, all_next HX.out HAL.out (.inl HQM.out), HZ.out⟩
              case measure => simp [intOf]; omega
            · have HQM := Lib.hid hq
              clear hq
              by_cases hfr : Freed (gAt xs) free paid q
              · have HFR := Lib.hid hfr
                clear hfr
                go_wp2_with (first
                  | (go_at_call 62; refine (l8Has_any _ _ _ _ _ _ (H'.out.below HZW.out) (by omega)).mono ?_; intro e w2 hp; obtain ⟨rfl, rfl⟩ := hp.no HQM.out)
                  | (go_at_call 59; refine (l8Freed_any _ _ _ _ _ _ _ _ _ _ _ (H.out.below HZW.out) (H'.out.below HZW.out) (by omega) (by omega) HW.out.1.1 hq1' HIP.out).mono ?_; intro e w3 hp; obtain ⟨rfl, hb3⟩ := hp.yes HFR.out; have HZ3 := Lib.hid (below_trans HZ.out hb3); clear hb3 hp))
                go_roundw
                case rel => exact ⟨j + 1, by omega, by go_num, all_next HX.out HAL.out (.inr HFR.out), HZ3.out⟩
                case measure => simp [intOf]; omega
              · have HFR := Lib.hid hfr
                clear hfr
                go_wp2_with (first
                  | (go_at_call 62; refine (l8Has_any _ _ _ _ _ _ (H'.out.below HZW.out) (by omega)).mono ?_; intro e w2 hp; obtain ⟨rfl, rfl⟩ := hp.no HQM.out)
                  | (go_at_call 59; refine (l8Freed_any _ _ _ _ _ _ _ _ _ _ _ (H.out.below HZW.out) (H'.out.below HZW.out) (by omega) (by omega) HW.out.1.1 hq1' HIP.out).mono ?_; intro e w3 hp; obtain ⟨rfl, hb3⟩ := hp.no HFR.out; have HZ3 := Lib.hid (below_trans HZW.out hb3); clear hb3 hp))
                go_ret
                exact onlyB_false (fun h => by
                  rcases (HPY.out.1 h).2 _ (mem_at HX.out) with h1 | h1
                  · exact HQM.out h1
                  · exact HFR.out h1) HZ3.out
          · have hx : ps.take j = ps := List.take_of_length_le (by have := HPQ.out; omega)
            rw [hx] at HAL
            clear hx
            go_wp2
            go_ret
            exact onlyB_true (HPY.out.2 (pays_of HA.out HU2.out.2 HU2.out.1 HAL.out)) HZW.out
end Go.Proofs.Ytngbpdijempkpaa
