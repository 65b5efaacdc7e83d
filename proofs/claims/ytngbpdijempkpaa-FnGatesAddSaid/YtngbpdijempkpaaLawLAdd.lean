/- Walk of FnGatesAdd. -/
import Derived.Test.YtngbpdijempkpaaDrawA
import Derived.Test.YtngbpdijempkpaaSameG
import Derived.Test.YtngbpdijempkpaaLV
import Derived.Test.YtngbpdijempkpaaGTrustI
import Derived.Test.YtngbpdijempkpaaGWalkD
import Derived.Deep.QuietTactic
import Derived.BigQuiet
set_option linter.unusedVariables false
namespace Go.Proofs.Ytngbpdijempkpaa
open Go.RowKit

set_option maxRecDepth 20000 in
set_option maxHeartbeats 1600000 in
theorem sameGates_q (A B : Option Addr) (len c d : Nat) (xs : List T3) (w : World) (hA : SlE 3 enc3 w A len xs) (hB : SlE 3 enc3 w B len xs) (hn : len ≤ 1048576) :
    Calls Try.prog 15 #[.slice A len c, .slice B len d] w fun e w' => e = .returned (.bool true) ∧ ∃ m, w' = w.drewN m := by
  have H := Lib.hid hA
  have H' := Lib.hid hB
  clear hA hB
  go_enter Try.func15, Try.ntmps15
  go_wp2_with fail
  go_loopw [5] (fun i wr => ∃ k m : Nat, k ≤ len ∧ i = .int .i64 k ∧ wr = w.drewN m) (fun i _ => len - (intOf i).toNat)
  case atStart => exact ⟨0, 0, by omega, rfl, rfl⟩
  case round =>
    obtain ⟨k, m, hk, rfl, rfl⟩ := hrel
    by_cases hlt : k < len
    · obtain ⟨b1, o1, x, y, z, rfl, hl1, hx1, hd1, g0, g1, g2⟩ := at3 (H.out.drewN m) (Below.refl _ _) hlt
      obtain ⟨b2, o2, x', y', z', rfl, hl2, hx2, hd2, k0, k1, k2⟩ := at3 (H'.out.drewN m) (Below.refl _ _) hlt
      rw [hx1] at hx2
      injection hx2 with hx2
      injection hx2 with e1 e2 e3
      subst e1 e2 e3
      clear hx1 hd1 hd2
      generalize hW : w.drewN m = W at *
      have HW := Lib.hid hW
      clear hW
      go_wp2_with fail
      go_quiet (fail)
      have HRq : Hid (W.drewN nq = w.drewN (m + nq)) := by rw [← HW.out, World.drewN_drewN]; exact rfl
      go_wp2_with fail
      go_roundw
      case rel => exact ⟨k + 1, _, by omega, by go_num, HRq.out⟩
      case measure => simp [intOf]; omega
    · go_wp2_with fail
      go_ret
      exact ⟨rfl, m, rfl⟩

theorem ins_erase (xs : List T3) (p : T3) : (ins xs p).eraseIdx (lead p.a xs) = xs := by
  have hl := lead_le p.a xs
  have e : (xs.take (lead p.a xs)).length = lead p.a xs := by rw [List.length_take]; omega
  unfold ins
  rw [List.eraseIdx_eq_take_drop_succ, List.append_assoc]
  generalize lead p.a xs = k at *
  rw [List.take_append_of_le_length (by omega), List.take_of_length_le (by omega), List.drop_append, List.drop_of_length_le (by omega), List.nil_append, e]
  have e2 : k + 1 - k = 1 := by omega
  rw [e2]
  show xs.take k ++ xs.drop k = xs
  exact List.take_append_drop _ _
theorem ins_at' (xs : List T3) (p : T3) : (ins xs p)[lead p.a xs]? = some p := by
  have hl := lead_le p.a xs
  have e : (xs.take (lead p.a xs)).length = lead p.a xs := by rw [List.length_take]; omega
  unfold ins
  rw [List.append_assoc, List.getElem?_append_right (by omega), e, Nat.sub_self]
  rfl
theorem all_way' {xs : List T3} (h : GatesOk xs) : xs.filter (inW 0 1000) = xs := by
  rw [List.filter_eq_self]
  intro p hp
  have := (gates_iff.1 h).2.1 p hp
  unfold GBd at this
  simp [inW]
  omega
theorem trust_nil {xs : List T3} {t : Int} (h : (idxIf (isT t) xs).length = 0) : ∀ q ∈ xs, q.b ≠ t := by
  intro q hq e
  have h1 : (idxIf (isT t) xs).map (gAt xs) = xs.filter (isT t) := idxIf_map _ _
  rw [List.eq_nil_of_length_eq_zero h] at h1
  have h2 : q ∈ xs.filter (isT t) := List.mem_filter.2 ⟨hq, by simp [isT, e]⟩
  rw [← h1] at h2
  simp at h2
/-- A gate of its own trust costs its toll. -/
theorem lv_add {xs : List T3} {p : T3} (h : AddOk xs p) (hal : ∀ q ∈ xs, q.b ≠ p.b) (free : Int) : LV (ins xs p) free 0 1000 = LV xs free 0 1000 + p.c := by
  rw [lv_eq, lv_eq, all_way' h.1, all_way' h.2]
  have hb := (gates_iff.1 h.2).2.1 p (List.mem_of_getElem? (ins_at' xs p))
  have e : xs = xs.take (lead p.a xs) ++ xs.drop (lead p.a xs) := (List.take_append_drop _ _).symm
  have hxs : ∀ q ∈ xs, 0 ≤ q.b ∧ q.b ≤ 3 := fun q hq => by
    have := (gates_iff.1 h.1).2.1 q hq
    unfold GBd at this
    omega
  unfold GBd at hb
  have := leastG_alone (free := free) (a := xs.take (lead p.a xs)) (b := xs.drop (lead p.a xs)) (p := p) ⟨by omega, by omega, by omega⟩ (by rw [← e]; exact hxs) (by rw [← e]; exact hal)
  rw [← e] at this
  exact this

set_option maxRecDepth 20000 in
set_option maxHeartbeats 6400000 in
theorem lawFnGatesAdd_walk (A0 : Option Addr) (len0 cap0 : Nat) (xs0 : List Int) (A1 : Option Addr) (len1 cap1 : Nat) (xs1 : List Int) (w : World) (h0 : SlE 1 encU w A0 len0 xs0) (hb0 : Bytes xs0) (hc0 : len0 ≤ cap0) (h1 : SlE 1 encU w A1 len1 xs1) (hb1 : Bytes xs1) (hc1 : len1 ≤ cap1) :
    Calls Try.prog 8 #[.slice A0 len0 cap0, .slice A1 len1 cap1] w (Only (.bool true) w) := by
  have H0 := Lib.hid h0
  have HB0 := Lib.hid hb0
  clear h0 hb0 h1 hb1
  by_cases hbig : (len0 : Int) ≤ 1048576
  rotate_left
  · go_enter Try.func8, Try.ntmps8
    go_wp2_with fail
    go_ret
    exact ⟨rfl, Below.refl _ _⟩
  by_cases hbig1 : (len1 : Int) ≤ 1048576
  rotate_left
  · go_enter Try.func8, Try.ntmps8
    go_wp2_with fail
    go_ret
    exact ⟨rfl, Below.refl _ _⟩
  go_enter Try.func8, Try.ntmps8
  go_wp2_with fail
  refine (drawAdd_any A0 len0 cap0 xs0 w H0.out HB0.out (by omega) hc0).mono ?_
  rintro e w1 ⟨v, xs, x, y, z, rfl, hl, ⟨x0, x1⟩, ⟨y0, y1⟩, ⟨z0, z1⟩, hown, hb1⟩
  obtain ⟨A, c, rfl, -, hlc⟩ := hown.slc enc3_len rfl
  generalize hlen : xs.length = len at *
  have HL := Lib.hid hlen
  have O1 := Lib.hid ((sl_of_own_at enc3_len hown hlen).alloc (.cells #[.int .i64 x, .int .i64 y, .int .i64 z] 31))
  have B1 := Lib.hid (below_alloc hb1 (.cells #[.int .i64 x, .int .i64 y, .int .i64 z] 31))
  have X1 := Lib.hid (boxAt_new w1 x y z)
  have hg1 := X1.out.lt
  obtain ⟨G, hG⟩ : ∃ G, G = w1.heap.size := ⟨_, rfl⟩
  have HG := Lib.hid hG
  clear hown hb1 H0 HB0 hlen hG
  by_cases hok : AddOk xs ⟨x, y, z⟩
  · have HOK := Lib.hid hok
    have HIL := Lib.hid (show (ins xs ⟨x, y, z⟩).length = len + 1 by rw [ins_len, HL.out])
    have HER : Hid ((ins xs ⟨x, y, z⟩).eraseIdx (lead x xs) = xs) := ins_erase xs ⟨x, y, z⟩
    have HAT : Hid ((ins xs ⟨x, y, z⟩)[lead x xs]? = some ⟨x, y, z⟩) := ins_at' xs ⟨x, y, z⟩
    have hll := lead_le x xs
    rw [HL.out] at hll
    obtain ⟨q, hq0, hq1, hq⟩ : ∃ q : Int, 0 ≤ q ∧ q < 50 ∧ (len1 : Int) % 50 = q := ⟨_, by omega, by omega, rfl⟩
    have hbx := lv_bd hok.1 q 0 1000
    have hbi := lv_bd hok.2 q 0 1000
    have HLX : Hid (LeastIs xs q 0 1000 (LV xs q 0 1000)) := .inl ⟨⟨⟨hok.1, by omega, by omega⟩, hq0, by omega⟩, rfl⟩
    have HLI : Hid (LeastIs (ins xs ⟨x, y, z⟩) q 0 1000 (LV (ins xs ⟨x, y, z⟩) q 0 1000)) := .inl ⟨⟨⟨hok.2, by omega, by omega⟩, hq0, by omega⟩, rfl⟩
    have HAL : Hid ((idxIf (isT y) xs).length = 0 → LV (ins xs ⟨x, y, z⟩) q 0 1000 = LV xs q 0 1000 + z) := fun h => lv_add HOK.out (trust_nil h) q
    have HTR : Hid (∀ W, SlE 3 enc3 W A len xs → Calls Try.prog 34 #[.slice A len c, .int .i64 y] W (RetOwn 1 encI 3 (idxIf (isT y) xs) W)) := fun W h1 => by
      rcases trust4 (b := y) ⟨y0, by omega⟩ with rfl | rfl | rfl | rfl
      · exact implGatesTrust_any A len c xs 0 _ W rfl h1 (by omega) (.inl ⟨HOK.out.1, rfl⟩)
      · exact implGatesTrust_any A len c xs 1 _ W rfl h1 (by omega) (.inl ⟨HOK.out.1, rfl⟩)
      · exact implGatesTrust_any A len c xs 2 _ W rfl h1 (by omega) (.inl ⟨HOK.out.1, rfl⟩)
      · exact implGatesTrust_any A len c xs 3 _ W rfl h1 (by omega) (.inl ⟨HOK.out.1, rfl⟩)
    have HTL := Lib.hid (idxIf_len (isT y) xs)
    clear hok
    generalize LV (ins xs ⟨x, y, z⟩) q 0 1000 = L1 at *
    generalize LV xs q 0 1000 = L0 at *
    generalize idxIf (isT y) xs = ts at *
    obtain ⟨l0, l1⟩ := hbx
    obtain ⟨l2, l3⟩ := hbi
    generalize htl : ts.length = tl at *
    have HTS := Lib.hid htl
    clear htl
    obtain ⟨q0, q1, q2⟩ := X1.out.cells
    go_wp2_with fail
    refine (implGatesAdd_any A len c xs x y z _ true _ O1.out (by omega) hlc (.inl ⟨rfl, HOK.out, rfl⟩)).mono ?_
    rintro e w2 ⟨v2, rfl, hown2, hb2⟩
    obtain ⟨A2, c2, rfl, -, hlc2⟩ := hown2.slc enc3_len HIL.out
    have E2 := Lib.hid hown2
    have O2 := Lib.hid (O1.out.below hb2)
    have B2 := Lib.hid (below_trans B1.out hb2)
    have X2 := Lib.hid (X1.out.below hb2 (Nat.le_refl _))
    obtain ⟨r0, r1, r2⟩ := X2.out.cells
    clear hown2 hb2 O1 B1 X1 q0 q1 q2
    go_wp2_with fail
    refine (specGatesAdd_any A len c xs x y z _ true w2 O2.out (by omega) hlc (.inl ⟨rfl, HOK.out, rfl⟩)).mono ?_
    rintro e w3 ⟨v3, rfl, hown3, hb3⟩
    obtain ⟨A3, c3, rfl, -, -⟩ := hown3.slc enc3_len HIL.out
    have F3 := Lib.hid (sl_of_own_at enc3_len hown3 HIL.out)
    have E3 := Lib.hid (E2.out.below hb3 (Nat.le_refl _))
    have O3 := Lib.hid (O2.out.below hb3)
    have X3 := Lib.hid (X2.out.below hb3 (Nat.le_refl _))
    have B3 := Lib.hid (below_trans B2.out hb3)
    clear hown3 hb3 O2 E2 B2 X2 r0 r1 r2
    go_wp2_with fail
    refine (sameGates_yes A2 A3 (len + 1) c2 c3 _ w3 (sl_of_own_at enc3_len E3.out HIL.out) F3.out (by omega)).mono ?_
    rintro e w4 ⟨rfl, hb4⟩
    have E4 := Lib.hid (E3.out.below hb4 (Nat.le_refl _))
    have O4 := Lib.hid (O3.out.below hb4)
    have X4 := Lib.hid (X3.out.below hb4 (Nat.le_refl _))
    have B4 := Lib.hid (below_trans B3.out hb4)
    clear hb4 E3 F3 B3 O3 X3
    obtain ⟨W0, rfl⟩ : ∃ W0, W0 = w4 := ⟨_, rfl⟩
    go_wp2_with fail
    go_loopw [11] (fun i wr => ∃ k : Nat, k ≤ lead x xs ∧ i = .int .i64 k ∧ Below W0.heap.size W0 wr) (fun i _ => len - (intOf i).toNat)
    case atStart => exact ⟨0, by omega, rfl, Below.refl _ _⟩
    case round =>
      obtain ⟨k, hk, rfl, hbr⟩ := hrel
      have HR := Lib.hid hbr
      have HK := Lib.hid hk
      have X5 := Lib.hid (X4.out.below hbr (Nat.le_refl _))
      obtain ⟨c0, c1, c2'⟩ := X5.out.cells
      have hkl : k ≤ len := Nat.le_trans hk hll
      obtain ⟨W1, rfl⟩ : ∃ W1, W1 = wr := ⟨_, rfl⟩
      clear hbr hk
      by_cases hgo : ∃ q, xs[k]? = some q ∧ q.a < x
      · obtain ⟨⟨a, b', cc⟩, hq, ha⟩ := hgo
        have hlt : k < len := by have := (List.getElem?_eq_some_iff.1 hq).1; rw [HL.out] at this; exact this
        obtain ⟨bb, off, a', b'', c', rfl, hbl, hx, hd, h0, h1, h2⟩ := at3 O4.out HR.out hlt
        rw [hq] at hx
        injection hx with hx
        injection hx with e1 e2 e3
        subst e1 e2 e3
        have HKN := Lib.hid (lead_step hq HK.out ha)
        simp only at ha
        clear hq hd h1 h2
        go_wp2_with fail
        go_quiet (fail)
        go_wp2
        go_roundw
        case rel => exact ⟨k + 1, HKN.out, by go_num, belowB_drewN HR.out _⟩
        case measure => simp [intOf]; omega
      · have HKE : Hid (lead x xs = k) := by
          by_cases hlt : k < len
          · obtain ⟨bb, off, a', b'', c', hA, hbl, hx, hd, h0, h1, h2⟩ := at3 O4.out HR.out hlt
            exact lead_stop hx HK.out (fun hh => hgo ⟨_, hx, hh⟩)
          · have := HK.out; show lead x xs = k; omega
        have k1 : (0 : Int) ≤ (k : Int) := by omega
        have k3 : (k : Int) < (len : Int) + 1 := by omega
        have k4 : (k : Int) ≤ (len : Int) := by omega
        by_cases hlt : k < len
        case' pos =>
          obtain ⟨bb, off, a, b', cc, rfl, hbl, hx, hd, h0, h1, h2⟩ := at3 O4.out HR.out hlt
          have ha : ¬ a < x := fun hh => hgo ⟨_, hx, hh⟩
          clear hx hd hgo h1 h2
          go_wp2_with fail
          go_quiet (fail)
        case' neg =>
          clear hgo
          have hge : (len : Int) ≤ (k : Int) := by omega
          have hd : decide ((k : Int) < (len : Int)) = false := by simp; omega
          go_wp2_with fail
          go_quiet (fail)
          clear hge hd
        all_goals
          have HDq := Lib.hid (belowB_drewN HR.out nq)
          have X6 := Lib.hid (X5.out.below (belowB_drewN (Below.refl W1.heap.size W1) nq) (Nat.le_refl _))
          clear c0 c1 c2'
          generalize W1.drewN nq = W2 at *
          have E6 := Lib.hid (E4.out.below HDq.out (Nat.le_refl _))
          have O6 := Lib.hid (O4.out.below HDq.out)
          have B6 := Lib.hid (below_trans B4.out HDq.out)
          have HER2 : Hid ((ins xs ⟨x, y, z⟩).eraseIdx k = xs) := by have := HER.out; rw [HKE.out] at this; exact this
          have HAT2 : Hid ((ins xs ⟨x, y, z⟩)[k]? = some ⟨x, y, z⟩) := by have := HAT.out; rw [HKE.out] at this; exact this
          clear HR HDq
          go_wp2_with fail
          refine (implGatesDrop_yes A2 k (len + 1) c2 _ W2 (sl_of_own_at enc3_len E6.out HIL.out) (by omega) hlc2 HOK.out.2 (by omega)).mono ?_
          rintro e w5 ⟨v5, rfl, hown5, hb5⟩
          rw [HER2.out] at hown5
          obtain ⟨A5, c5, rfl, -, -⟩ := hown5.slc enc3_len HL.out
          have S5 := Lib.hid (sl_of_own_at enc3_len hown5 HL.out)
          have E7 := Lib.hid (E6.out.below hb5 (Nat.le_refl _))
          have O7 := Lib.hid (O6.out.below hb5)
          have X7 := Lib.hid (X6.out.below hb5 (Nat.le_refl _))
          have B7 := Lib.hid (below_trans B6.out hb5)
          obtain ⟨r0, r1, r2⟩ := X7.out.cells
          clear hown5 hb5 E6 O6 X6 B6
          go_wp2_with fail
          refine (HTR.out w5 O7.out).mono ?_
          rintro e w6 ⟨v6, rfl, hown6, hb6⟩
          obtain ⟨A6, c6, rfl, -, -⟩ := hown6.slc encI_len HTS.out
          have S6 := Lib.hid (S5.out.below hb6)
          have E8 := Lib.hid (E7.out.below hb6 (Nat.le_refl _))
          have O8 := Lib.hid (O7.out.below hb6)
          have X8 := Lib.hid (X7.out.below hb6 (Nat.le_refl _))
          have B8 := Lib.hid (below_trans B7.out hb6)
          clear hown6 hb6 E7 O7 X7 B7 r0 r1 r2 S5
          go_wp2_with fail
          refine (implTollLeast_any _ len c xs q 0 1000 L0 w6 O8.out (by omega) HLX.out).mono ?_
          rintro e w7 ⟨rfl, hb7⟩
          have S7 := Lib.hid (S6.out.below hb7)
          have E9 := Lib.hid (E8.out.below hb7 (Nat.le_refl _))
          have O9 := Lib.hid (O8.out.below hb7)
          have X9 := Lib.hid (X8.out.below hb7 (Nat.le_refl _))
          have B9 := Lib.hid (below_trans B8.out hb7)
          clear hb7 E8 O8 X8 B8 S6
          go_wp2_with fail
          refine (implTollLeast_any A2 (len + 1) c2 _ q 0 1000 L1 w7 (sl_of_own_at enc3_len E9.out HIL.out) (by omega) HLI.out).mono ?_
          rintro e w8 ⟨rfl, hb8⟩
          have S8 := Lib.hid (S7.out.below hb8)
          have Ea := Lib.hid (E9.out.below hb8 (Nat.le_refl _))
          have Oa := Lib.hid (O9.out.below hb8)
          have Xa := Lib.hid (X9.out.below hb8 (Nat.le_refl _))
          have Ba := Lib.hid (below_trans B9.out hb8)
          clear hb8 E9 O9 X9 B9 S7
          obtain ⟨g2, rfl, -, hg20, hg21, -⟩ := Ea.out.form (by rw [HIL.out]; omega)
          obtain ⟨s0, s1, s2⟩ := OwnE.cell3 Ea.out HAT2.out
          obtain ⟨r0, r1, r2⟩ := Xa.out.cells
          have HQ := Lib.hid (fun d => sameGates_q A5 _ len c5 c xs (w8.drewN d) (S8.out.drewN d) (Oa.out.drewN d) (by omega))
          have x9 : IntKind.i64.wrap (L0 + z) = L0 + z := IntWalk.i64_in _ (by omega)
          by_cases ht : tl = 0
          · have hL := HAL.out ht
            subst ht
            subst hL
            go_wp2_with fail
            go_quiet ((go_at_call 15; exact Calls.quiet_of (HQ.out _)))
            go_wp2_with fail
            go_ret
            exact ⟨by simp <;> omega, belowB_drewN Ba.out _⟩
          · have ht' : ((tl : Int) == 0) = false := by simp; omega
            clear ht
            go_wp2_with fail
            go_quiet ((go_at_call 15; exact Calls.quiet_of (HQ.out _)))
            go_wp2_with fail
            go_ret
            exact ⟨by simp <;> omega, belowB_drewN Ba.out _⟩
  · have HN := Lib.hid hok
    clear hok
    obtain ⟨q0, q1, q2⟩ := X1.out.cells
    go_wp2_with fail
    refine (implGatesAdd_any A len c xs x y z [] false _ O1.out (by omega) hlc (.inr ⟨rfl, HN.out, rfl⟩)).mono ?_
    rintro e w2 ⟨v2, rfl, hown2, hb2⟩
    obtain ⟨A2, c2, rfl, -, -⟩ := hown2.slc enc3_len (n := 0) rfl
    have E2 := Lib.hid (sl_of_own_at enc3_len hown2 (n := 0) rfl)
    have O2 := Lib.hid (O1.out.below hb2)
    have B2 := Lib.hid (below_trans B1.out hb2)
    have X2 := Lib.hid (X1.out.below hb2 (Nat.le_refl _))
    obtain ⟨r0, r1, r2⟩ := X2.out.cells
    clear hown2 hb2 O1 B1 X1 q0 q1 q2
    go_wp2_with fail
    refine (specGatesAdd_any A len c xs x y z [] false w2 O2.out (by omega) hlc (.inr ⟨rfl, HN.out, rfl⟩)).mono ?_
    rintro e w3 ⟨v3, rfl, hown3, hb3⟩
    obtain ⟨A3, c3, rfl, -, -⟩ := hown3.slc enc3_len (n := 0) rfl
    have F3 := Lib.hid (sl_of_own_at enc3_len hown3 (n := 0) rfl)
    have E3 := Lib.hid (E2.out.below hb3)
    have B3 := Lib.hid (below_trans B2.out hb3)
    clear hown3 hb3 O2 E2 B2 r0 r1 r2
    go_wp2_with fail
    refine (sameGates_yes A2 A3 0 c2 c3 [] w3 E3.out F3.out (by omega)).mono ?_
    rintro e w4 ⟨rfl, hb4⟩
    have E4 := Lib.hid (E3.out.below hb4)
    have F4 := Lib.hid (F3.out.below hb4)
    have B4 := Lib.hid (below_trans B3.out hb4)
    clear hb4 E3 F3 B3
    go_wp2_with fail
    refine (sameGates_yes A2 A3 0 c2 c3 [] w4 E4.out F4.out (by omega)).mono ?_
    rintro e w5 ⟨rfl, hb5⟩
    have B5 := Lib.hid (below_trans B4.out hb5)
    clear hb5 E4 F4 B4
    go_wp2_with fail
    go_ret
    exact ⟨rfl, B5.out⟩
end Go.Proofs.Ytngbpdijempkpaa
