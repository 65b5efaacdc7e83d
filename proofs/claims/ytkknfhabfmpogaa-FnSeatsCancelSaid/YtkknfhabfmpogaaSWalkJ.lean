/- Contracts: SeatsCancel. -/
import Derived.Test.YtkknfhabfmpogaaSWalkD
import Derived.Test.YtkknfhabfmpogaaConB
import Derived.Deep.RegionHeld3
import Derived.StillTailTactics
set_option linter.unusedVariables false
namespace Go.Proofs.Ytkknfhabfmpogaa
open Go.RowKit

set_option maxRecDepth 20000 in
set_option maxHeartbeats 1600000 in
theorem specSeatsCancel_yes (A : Option Addr) (n : Int) (k len cap : Nat) (xs : List B3) (w : World) (h : SlE 3 encB w A len xs) (hn : len ≤ 16777216) (hlc : len ≤ cap) (hB : BookOk n xs) (hk : k < len) :
    Calls Try.prog 31 #[.int .i64 n, .slice A len cap, .int .i64 k] w (RetOwnB 3 encB 28 (xs.eraseIdx k) true w) := by
  have H := Lib.hid h
  clear h
  have HB := Lib.hid hB
  clear hB
  go_enter Try.func31, Try.ntmps31
  go_wp2_with fail
  refine (specBookingsValid_any A n len cap xs w H.out hn).mono ?_
  intro e w1 hp
  obtain ⟨rfl, hb1⟩ := hp.yes HB.out
  have HB1 := Lib.hid hb1
  clear hb1 hp
  go_wp2_with (go_at_call 41; refine (l6In_any _ _ _ _).mono ?_; intro e w2 hp; obtain ⟨rfl, rfl⟩ := hp.yes (by omega))
  have k1 : (0 : Int) ≤ (k : Int) := by omega
  have k2 : (k : Int) ≤ (cap : Int) := by omega
  have k3 : (0 : Int) ≤ (k : Int) + 1 := by omega
  have k4 : (k : Int) + 1 ≤ (len : Int) := by omega
  have k5 : (k : Int) + 1 ≤ (cap : Int) := by omega
  have k6 : (len : Int) ≤ (cap : Int) := by omega
  have k7 : IntKind.i64.wrap ((k : Int) + 1) = (k : Int) + 1 := IntWalk.i64_in _ (by omega)
  have k8 : ((k : Int) + 1).toNat = k + 1 := by omega
  have hs1 := HB1.out.size
  have O1 := Lib.hid (OwnE.drew (own_new (enc := encB) (k := 3) w1 28 w.heap.size hs1 encB_len [] #[] rfl (by simp) rfl))
  have n1 : (([] : List B3).length + k) * 24 ≤ 140737488355328 := by simp; omega
  have n2 : ([] : List B3).length + k ≤ maxLen := by simp [maxLen]; omega
  have n3 : w.heap.size ≤ (w1.alloc (.cells #[] 28)).drew.heap.size := by simp; omega
  have N := Lib.hid (And.intro n1 (And.intro n2 n3))
  have hl := H.out.len
  have m1 : (([] ++ xs.take k).length + (len - (k + 1))) * 24 ≤ 140737488355328 := by simp; omega
  have m2 : ([] ++ xs.take k).length + (len - (k + 1)) ≤ maxLen := by simp [maxLen]; omega
  have N2 := Lib.hid (And.intro m1 m2)
  clear n1 n2 n3 m1 m2 hl
  have HA1 := Lib.hid (below_drew (below_alloc HB1.out (.cells #[] 28)))
  go_region_held3 (fun w' => SlE 3 encB w' A len xs ∧ Below w.heap.size w w')
    (first | exact ⟨(H.out.below HB1.out).drew, below_drew HB1.out⟩ | exact ⟨H.out.below HA1.out, HA1.out⟩ | (have := HB2.out; exact ⟨H.out.below this, this⟩) | (have := HB3.out; exact ⟨H.out.below this, this⟩))
    (first
      | (refine step_cat (bytes := 24) (base := w.heap.size) encB_len encB_one (Nat.succ_pos 2) rfl (.tmp 21) (.tmp 24) _ rfl Try.underlying23 info_conB rfl _ [] rfl O1.out rfl (SlE.take (H.out.below HA1.out) (Nat.le_of_lt hk)) N.out.1 N.out.2.1 N.out.2.2 ?_; intro v2 w2 hown2 hg2; have HB2 := Lib.hid (below_grown HA1.out hg2 O1.out (Nat.le_refl _)); have O2 := Lib.hid hown2; clear hown2 hg2)
      | (refine step_cat (bytes := 24) (base := w.heap.size) encB_len encB_one (Nat.succ_pos 2) rfl (.tmp 25) (.tmp 29) _ rfl Try.underlying23 info_conB rfl _ _ rfl O2.out rfl (SlE.cut (H.out.below HB2.out) hk hlc) N2.out.1 N2.out.2 HB2.out.size ?_; intro v3 w3 hown3 hg3; have HB3 := Lib.hid (below_grown HB2.out hg3 O2.out (Nat.le_refl _)); have O3 := Lib.hid hown3; clear hown3 hg3))
  go_wp2
  all_goals
    go_ret2
    exact ⟨_, rfl, by rw [List.eraseIdx_eq_take_drop_succ]; exact O3.out, HB3.out⟩

set_option maxRecDepth 20000 in
set_option maxHeartbeats 800000 in
theorem specSeatsCancel_no (A : Option Addr) (n k : Int) (len cap : Nat) (xs : List B3) (w : World) (h : SlE 3 encB w A len xs) (hn : len ≤ 16777216) (hB : ¬ (BookOk n xs ∧ 0 ≤ k ∧ k < len)) :
    Calls Try.prog 31 #[.int .i64 n, .slice A len cap, .int .i64 k] w (RetOwnB 3 encB 28 ([] : List B3) false w) := by
  have H := Lib.hid h
  have HB := Lib.hid hB
  clear h hB
  by_cases hb : BookOk n xs
  · have hft : ¬ (0 ≤ k ∧ k ≤ (len : Int) - 1) := fun h => HB.out ⟨hb, by omega⟩
    have HC := Lib.hid hb
    clear hb
    go_enter Try.func31, Try.ntmps31
    go_wp2_with fail
    refine (specBookingsValid_any A n len cap xs w H.out hn).mono ?_
    intro e w1 hp
    obtain ⟨rfl, hb1⟩ := hp.yes HC.out
    have HB1 := Lib.hid hb1
    clear hb1 hp
    go_wp2_with (go_at_call 41; refine (l6In_any _ _ _ _).mono ?_; intro e w2 hp; obtain ⟨rfl, rfl⟩ := hp.no hft)
    go_ret2
    exact ⟨_, rfl, own_new w1 _ _ HB1.out.size encB_len [] #[] rfl (by simp) rfl, below_alloc HB1.out _⟩
  · go_enter Try.func31, Try.ntmps31
    go_wp2_with fail
    refine (specBookingsValid_any A n len cap xs w H.out hn).mono ?_
    intro e w1 hp
    obtain ⟨rfl, hb1⟩ := hp.no hb
    have HB1 := Lib.hid hb1
    clear hb1 hp
    go_wp2
    go_ret2
    exact ⟨_, rfl, own_new w1 _ _ HB1.out.size encB_len [] #[] rfl (by simp) rfl, below_alloc HB1.out _⟩

set_option maxRecDepth 20000 in
set_option maxHeartbeats 800000 in
theorem implSeatsCancel_no (A : Option Addr) (n k : Int) (len cap : Nat) (xs : List B3) (w : World) (h : SlE 3 encB w A len xs) (hn : len ≤ 16777216) (hB : ¬ (BookOk n xs ∧ 0 ≤ k ∧ k < len)) :
    Calls Try.prog 30 #[.int .i64 n, .slice A len cap, .int .i64 k] w (RetOwnB 3 encB 28 ([] : List B3) false w) := by
  have H := Lib.hid h
  have HB := Lib.hid hB
  clear h hB
  by_cases hb : BookOk n xs
  · have hft : ¬ (0 ≤ k ∧ k < (len : Int)) := fun h => HB.out ⟨hb, h⟩
    have HC := Lib.hid hb
    clear hb
    have HF := Lib.hid hft
    clear hft
    go_enter Try.func30, Try.ntmps30
    go_wp2_with fail
    refine (implBookingsValid_any A n len cap xs w H.out hn).mono ?_
    intro e w1 hp
    obtain ⟨rfl, hb1⟩ := hp.yes HC.out
    have HB1 := Lib.hid hb1
    clear hb1 hp
    go_wp2
    all_goals first
      | exact absurd (by omega) HF.out
      | (go_ret2; exact ⟨_, rfl, own_new w1 _ _ HB1.out.size encB_len [] #[] rfl (by simp) rfl, below_alloc HB1.out _⟩)
  · go_enter Try.func30, Try.ntmps30
    go_wp2_with fail
    refine (implBookingsValid_any A n len cap xs w H.out hn).mono ?_
    intro e w1 hp
    obtain ⟨rfl, hb1⟩ := hp.no hb
    have HB1 := Lib.hid hb1
    clear hb1 hp
    go_wp2
    go_ret2
    exact ⟨_, rfl, own_new w1 _ _ HB1.out.size encB_len [] #[] rfl (by simp) rfl, below_alloc HB1.out _⟩

set_option maxRecDepth 20000 in
set_option maxHeartbeats 1600000 in
theorem implSeatsCancel_yes (A : Option Addr) (n : Int) (k len cap : Nat) (xs : List B3) (w : World) (h : SlE 3 encB w A len xs) (hn : len ≤ 2097152) (hlc : len ≤ cap) (hB : BookOk n xs) (hk : k < len) :
    Calls Try.prog 30 #[.int .i64 n, .slice A len cap, .int .i64 k] w (RetOwnB 3 encB 28 (xs.eraseIdx k) true w) := by
  have H := Lib.hid h
  clear h
  have HB := Lib.hid hB
  clear hB
  go_enter Try.func30, Try.ntmps30
  go_wp2_with fail
  refine (implBookingsValid_any A n len cap xs w H.out (by omega)).mono ?_
  intro e w1 hp
  obtain ⟨rfl, hb1⟩ := hp.yes HB.out
  have HB1 := Lib.hid hb1
  clear hb1 hp
  have k1 : (0 : Int) ≤ (k : Int) := by omega
  have k2 : (k : Int) ≤ (cap : Int) := by omega
  have k3 : (0 : Int) ≤ (k : Int) + 1 := by omega
  have k4 : (k : Int) + 1 ≤ (len : Int) := by omega
  have k5 : (k : Int) + 1 ≤ (cap : Int) := by omega
  have k6 : (len : Int) ≤ (cap : Int) := by omega
  have kk : (k : Int) < (len : Int) := by omega
  have k7 : IntKind.i64.wrap ((k : Int) + 1) = (k : Int) + 1 := IntWalk.i64_in _ (by omega)
  have k8 : ((k : Int) + 1).toNat = k + 1 := by omega
  go_wp2_with fail
  go_still_tail 7, (by kernel_rfl)
  change wpList _ _ _ _ _ w1.drew
  clear k7
  have HBd := Lib.hid (below_drew HB1.out)
  clear HB1
  generalize w1.drew = wd at *
  have hcut := (H.out.below HBd.out).cut (k := 3) (j := k + 1) (cap := cap) hk hlc
  generalize (if cap = k + 1 then A else Option.map (fun x => x.add ((k + 1) * 3)) A) = A' at *
  have hs := slS_new (k := 3) (enc := encB) (w := wd) [⟨A, k, cap, xs.take k⟩, ⟨A', len - (k + 1), cap - (k + 1), xs.drop (k + 1)⟩]
    #[.slice A k cap, .slice A' (len - (k + 1)) (cap - (k + 1))] 23 rfl (m := 2) rfl (by
      intro s hs
      simp only [List.mem_cons, List.not_mem_nil, or_false] at hs
      rcases hs with rfl | rfl
      · exact (H.out.below HBd.out).take (Nat.le_of_lt hk)
      · exact hcut)
  clear hcut
  have HS := Lib.hid hs
  have HE := Lib.hid (List.eraseIdx_eq_take_drop_succ xs k)
  clear hs
  go_wp2_with fail
  refine (concatB_any HS.out (by omega) (by simp [snLen]; omega)).mono ?_
  rintro e w2 ⟨v, rfl, hown, hb2⟩
  have HB2 := Lib.hid (below_trans (below_alloc HBd.out _) hb2)
  have ea : snAll [(⟨A, k, cap, xs.take k⟩ : Sn B3), ⟨A', len - (k + 1), cap - (k + 1), xs.drop (k + 1)⟩] = xs.eraseIdx k := by rw [HE.out]; simp [snAll]
  rw [ea] at hown
  have HO2 := Lib.hid (hown.base_le (base' := w.heap.size) (by have := HBd.out.size; simp; omega))
  clear hown hb2 ea
  go_wp2
  all_goals
    go_ret2
    exact ⟨_, rfl, HO2.out, HB2.out⟩
end Go.Proofs.Ytkknfhabfmpogaa
