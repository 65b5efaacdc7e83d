/- Contracts: cmp.Compare, cmp.Or, the closure of BillOrder, slices.Clone. -/
import Derived.Test.YtdfgogcefnamcaaWalkG
import Derived.Test.YtdfgogcefnamcaaOrdP
import Derived.Test.YtdfgogcefnamcaaDraw
import Derived.Deep.RegionHeld3
import Derived.ChangeAlike
import Derived.RegionTactic
import Derived.Deep.Cut
import Derived.Deep.QuietTactic
import Derived.BigQuiet
set_option linter.unusedVariables false
namespace Go.Proofs.Ytdfgogcefnamcaa
open Go.RowKit

/-- A parcel in a block of its own. -/
def BoxP (w : World) (G : Nat) (p : T3) : Prop := OwnE 3 enc3 28 G w (.slice (some ⟨G, 0, none⟩) 1 1) [p]
theorem boxP_new (w : World) (x y z : Int) : BoxP (w.alloc (.cells #[.int .i64 x, .int .i64 y, .int .i64 z] 28)) w.heap.size ⟨x, y, z⟩ :=
  own_new (enc := enc3) (k := 3) w 28 w.heap.size (Nat.le_refl _) enc3_len [⟨x, y, z⟩] _ rfl (by simp [maxLen]) rfl
theorem BoxP.cells {w : World} {G : Nat} {x y z : Int} (h : BoxP w G ⟨x, y, z⟩) : w.cell? ⟨G, 0, none⟩ = some (.int .i64 x) ∧ w.cell? ⟨G, 1, none⟩ = some (.int .i64 y) ∧ w.cell? ⟨G, 2, none⟩ = some (.int .i64 z) := by
  obtain ⟨a, b, c⟩ := OwnE.cell3 h (j := 0) (x := x) (y := y) (z := z) rfl
  exact ⟨by simpa using a, by simpa using b, by simpa using c⟩
theorem BoxP.below {w w' : World} {G B : Nat} {p : T3} (h : BoxP w G p) (hb : Below B w w') (hB : w.heap.size ≤ B) : BoxP w' G p := OwnE.below h hb hB

set_option maxRecDepth 20000 in
set_option maxHeartbeats 800000 in
theorem compare_any (x y : Int) (w : World) : Calls Try.prog 80 #[.int .i64 x, .int .i64 y] w (Same (.int .i64 (cmpI x y)) w) := by
  have hn : ∀ z W, Calls Try.prog 88 #[.int .i64 z] W (Same (.bool false) W) := by
    intro z W
    go_enter Try.func88, Try.ntmps88
    go_wp2
    go_ret
    exact ⟨rfl, rfl⟩
  have HN := Lib.hid hn
  clear hn
  rcases Int.lt_trichotomy x y with h | h | h
  · have HC := Lib.hid (show cmpI x y = -1 by unfold cmpI; rw [if_pos h])
    rw [HC.out]
    go_enter Try.func80, Try.ntmps80
    go_wp2_with (go_at_call 88; refine (HN.out _ _).mono ?_; rintro e w2 ⟨rfl, rfl⟩)
    go_ret
    exact ⟨rfl, rfl⟩
  · subst h
    have HC := Lib.hid (show cmpI x x = 0 by unfold cmpI; rw [if_neg (by omega), if_neg (by omega)])
    rw [HC.out]
    go_enter Try.func80, Try.ntmps80
    go_wp2_with (go_at_call 88; refine (HN.out _ _).mono ?_; rintro e w2 ⟨rfl, rfl⟩)
    go_ret
    exact ⟨rfl, rfl⟩
  · have h' : ¬ x < y := by omega
    have HC := Lib.hid (show cmpI x y = 1 by unfold cmpI; rw [if_neg h', if_pos h])
    rw [HC.out]
    go_enter Try.func80, Try.ntmps80
    go_wp2_with (go_at_call 88; refine (HN.out _ _).mono ?_; rintro e w2 ⟨rfl, rfl⟩)
    go_ret
    exact ⟨rfl, rfl⟩

set_option maxRecDepth 20000 in
set_option maxHeartbeats 800000 in
theorem or2_any (A : Option Addr) (c : Nat) (x y : Int) (w : World) (h : SlE 1 encI w A 2 [x, y]) : Calls Try.prog 79 #[.slice A 2 c] w (Same (.int .i64 (orV x y)) w) := by
  have H := Lib.hid h
  clear h
  obtain ⟨b, off, x', rfl, hb, hx, -, g0⟩ := at1 H.out (Below.refl _ w) (show 0 < 2 by omega)
  obtain ⟨b', off', y', hA, hb', hy, -, g1⟩ := at1 H.out (Below.refl _ w) (show 1 < 2 by omega)
  injection hA with hA
  injection hA with e1 e2
  subst e1 e2
  simp only [List.getElem?_cons_zero, List.getElem?_cons_succ, Option.some.injEq] at hx hy
  subst hx hy
  simp only [Nat.add_zero] at g0
  clear hb hb' H
  have HO := Lib.hid (show (x = 0 → orV x y = y) ∧ (¬ x = 0 → orV x y = x) from ⟨fun h => by unfold orV; rw [if_pos h], fun h => by unfold orV; rw [if_neg h]⟩)
  go_enter Try.func79, Try.ntmps79
  go_wp2_with fail
  go_loop [8, 5] (fun i _ => (i = .int .i64 0) ∨ (i = .int .i64 1 ∧ x = 0) ∨ (i = .int .i64 2 ∧ x = 0 ∧ y = 0)) (fun i _ => 3 - (intOf i).toNat)
  case atStart => exact .inl rfl
  case round =>
    rcases hrel with rfl | ⟨rfl, hx⟩ | ⟨rfl, hx, hy⟩
    · by_cases h0 : x = 0
      · have f0 : (x != 0) = false := by simp [h0]
        have H0 := Lib.hid h0
        clear h0
        go_wp2_with fail
        go_round
        case rel => exact .inr (.inl ⟨rfl, H0.out⟩)
        case measure => simp [intOf]
      · have f0 : (x != 0) = true := by simpa using h0
        rw [HO.out.2 h0]
        clear h0
        go_wp2_with fail
        go_ret
        exact ⟨rfl, rfl⟩
    · rw [HO.out.1 hx]
      have HX := Lib.hid hx
      clear hx
      by_cases h0 : y = 0
      · have f0 : (y != 0) = false := by simp [h0]
        have H0 := Lib.hid h0
        clear h0
        go_wp2_with fail
        go_round
        case rel => exact .inr (.inr ⟨rfl, HX.out, H0.out⟩)
        case measure => simp [intOf]
      · have f0 : (y != 0) = true := by simpa using h0
        clear h0
        go_wp2_with fail
        go_ret
        exact ⟨rfl, rfl⟩
    · have HE := Lib.hid (HO.out.1 hx)
      subst hy
      clear hx
      go_wp2_with fail
      go_ret
      exact ⟨by rw [HE.out]; rfl, rfl⟩

set_option maxRecDepth 20000 in
set_option maxHeartbeats 3200000 in
/-- What BillOrder compares by. -/
theorem cmpP_any (x y z x' y' z' : Int) (w : World) : Calls Try.prog 78 #[.agg #[.int .i64 x, .int .i64 y, .int .i64 z], .agg #[.int .i64 x', .int .i64 y', .int .i64 z']] w (Only (.int .i64 (orV (cmpI x x') (cmpI y' y))) w) := by
  have c1 := compare_any x x'
  have c2 := compare_any y' y
  have H1 := Lib.hid c1
  have H2 := Lib.hid c2
  clear c1 c2
  generalize cmpI x x' = a at *
  generalize cmpI y' y = b at *
  have X1 := (boxP_new w x y z).below (below_alloc (Below.refl _ (w.alloc (.cells #[.int .i64 x, .int .i64 y, .int .i64 z] 28))) (.cells #[.int .i64 x', .int .i64 y', .int .i64 z'] 28)) (Nat.le_refl _)
  have X2 := boxP_new (w.alloc (.cells #[.int .i64 x, .int .i64 y, .int .i64 z] 28)) x' y' z'
  have HB2 := below_alloc (below_alloc (Below.refl w.heap.size w) (.cells #[.int .i64 x, .int .i64 y, .int .i64 z] 28)) (.cells #[.int .i64 x', .int .i64 y', .int .i64 z'] 28)
  have hz : (w.alloc (.cells #[.int .i64 x, .int .i64 y, .int .i64 z] 28)).heap.size = w.heap.size + 1 := by simp
  rw [hz] at X2
  have X1 := Lib.hid X1
  have X2 := Lib.hid X2
  have HB2 := Lib.hid HB2
  clear hz
  go_enter Try.func78, Try.ntmps78
  go_upto_region 1 with (fail)
  generalize hW : (w.alloc (.cells #[.int .i64 x, .int .i64 y, .int .i64 z] 28)).alloc (.cells #[.int .i64 x', .int .i64 y', .int .i64 z'] 28) = W at *
  generalize hG2 : w.heap.size + 1 = G2 at *
  generalize hG1 : w.heap.size = G1 at *
  have HG1 := Lib.hid hG1
  clear hW hG1 hG2
  have HK := Lib.hid (fun (V : World) (h : Below W.heap.size W V) => (⟨(X1.out.below h (Nat.le_refl _)).cells, (X2.out.below h (Nat.le_refl _)).cells⟩ : (V.cell? ⟨G1, 0, none⟩ = some (.int .i64 x) ∧ V.cell? ⟨G1, 1, none⟩ = some (.int .i64 y) ∧ V.cell? ⟨G1, 2, none⟩ = some (.int .i64 z)) ∧ (V.cell? ⟨G2, 0, none⟩ = some (.int .i64 x') ∧ V.cell? ⟨G2, 1, none⟩ = some (.int .i64 y') ∧ V.cell? ⟨G2, 2, none⟩ = some (.int .i64 z'))))
  have D0 := Lib.hid (Below.refl W.heap.size W)
  have D1 := Lib.hid (Below.refl W.heap.size W).drew
  have D2 := Lib.hid (below_alloc (Below.refl W.heap.size W) (.cells #[.int .i64 a, .int .i64 b] 3))
  have D3 := Lib.hid (below_alloc (Below.refl W.heap.size W) (.cells #[.int .i64 a, .int .i64 b] 3)).drew
  have D4 := Lib.hid (below_alloc (Below.refl W.heap.size W).drew (.cells #[.int .i64 a, .int .i64 b] 3))
  have S1 := Lib.hid (slE_new (k := 1) (enc := encI) W 3 encI_len [a, b] #[.int .i64 a, .int .i64 b] rfl (by simp [maxLen]) (n := 2) rfl (g := W.heap.size) rfl).drew
  have S2 := Lib.hid (slE_new (k := 1) (enc := encI) W.drew 3 encI_len [a, b] #[.int .i64 a, .int .i64 b] rfl (by simp [maxLen]) (n := 2) rfl (g := W.heap.size) rfl)
  go_region_held3 (fun V => (V.cell? ⟨G1, 0, none⟩ = some (.int .i64 x) ∧ V.cell? ⟨G1, 1, none⟩ = some (.int .i64 y) ∧ V.cell? ⟨G1, 2, none⟩ = some (.int .i64 z)) ∧ (V.cell? ⟨G2, 0, none⟩ = some (.int .i64 x') ∧ V.cell? ⟨G2, 1, none⟩ = some (.int .i64 y') ∧ V.cell? ⟨G2, 2, none⟩ = some (.int .i64 z')))
    (first | exact HK.out _ D0.out | exact HK.out _ D1.out | exact HK.out _ D2.out | exact HK.out _ D3.out | exact HK.out _ D4.out | fail)
    (first
      | (go_at_call 80; (with_reducible_and_instances refine (H1.out _).mono ?_); rintro e wc ⟨rfl, rfl⟩)
      | (go_at_call 80; (with_reducible_and_instances refine (H2.out _).mono ?_); rintro e wc ⟨rfl, rfl⟩)
      | (go_at_call 79; (with_reducible_and_instances refine (or2_any _ 2 a b _ S1.out).mono ?_); rintro e wc ⟨rfl, rfl⟩)
      | (go_at_call 79; (with_reducible_and_instances refine (or2_any _ 2 a b _ S2.out).mono ?_); rintro e wc ⟨rfl, rfl⟩)
      | fail)
  have BB : Hid (Below w.heap.size w W) := by
    have h1 := HG1.out
    have h2 := HB2.out
    rw [← h1] at h2
    exact h2
  all_goals
    go_wp2_with fail
    go_ret
    first
      | exact ⟨rfl, below_trans BB.out D3.out⟩
      | exact ⟨rfl, below_trans BB.out D4.out⟩

/-- How a sort in place ends. -/
def SortsP (base g n c : Nat) (ys : List T3) (w : World) (e : Ending) (w' : World) : Prop :=
  e = .returned (.tuple #[]) ∧ OwnE 3 enc3 28 base w' (.slice (some ⟨g, 0, none⟩) n c) ys ∧ w.grownBy w' (some g)
theorem gr_drewN {w w' : World} {row : Option Nat} (h : w.grownBy w' row) (n : Nat) : w.grownBy (w'.drewN n) row := ⟨h.os, h.tape, h.output, h.size, h.block⟩
theorem gr_drew {w w' : World} {row : Option Nat} (h : w.grownBy w' row) : w.grownBy w'.drew row := ⟨h.os, h.tape, h.output, h.size, h.block⟩

set_option maxRecDepth 20000 in
set_option maxHeartbeats 6400000 in
theorem insSortP_any (base g n c : Nat) (l : List T3) (w : World) (h : OwnE 3 enc3 28 base w (.slice (some ⟨g, 0, none⟩) n c) l) (hl : l.length = n) (hn : n ≤ 16777216) :
    Calls Try.prog 91 #[.slice (some ⟨g, 0, none⟩) n c, .int .i64 0, .int .i64 n, .func (.func 78) #[] #[]] w (SortsP base g n c (isort lessP l) w) := by
  have H := Lib.hid h
  have HL := Lib.hid hl
  clear h hl
  go_enter Try.func91, Try.ntmps91
  go_wp2_with fail
  go_loopw [8, 9] (fun i _ wr => ∃ k : Nat, 1 ≤ k ∧ k ≤ n + 1 ∧ i = .int .i64 k ∧ OwnE 3 enc3 28 base wr (.slice (some ⟨g, 0, none⟩) n c) ((sortR lessP (l.take k)).reverse ++ l.drop k) ∧ w.grownBy wr (some g)) (fun i _ _ => n + 1 - (intOf i).toNat)
  case atStart => exact ⟨1, Nat.le_refl _, by omega, rfl, by rw [sortR_one]; exact H.out, World.grownBy.refl _ _⟩
  case round =>
    obtain ⟨i, hi1, hin, rfl, hown, hgr⟩ := hrel
    have HO := Lib.hid hown
    have HR := Lib.hid hgr
    clear hown hgr
    by_cases hlt : i < n
    · obtain ⟨p, hx⟩ : ∃ x, l[i]? = some x := ⟨_, List.getElem?_eq_getElem (by rw [HL.out]; exact hlt)⟩
      have HI0 := Lib.hid (ins_start (less := lessP) hx)
      clear hx
      go_wp2_with fail
      go_loopw [9] (fun j wz => ∃ (k : Nat) (cur : List T3), j = .int .i64 k ∧ Ins lessP l i k p cur ∧ OwnE 3 enc3 28 base wz (.slice (some ⟨g, 0, none⟩) n c) cur ∧ w.grownBy wz (some g)) (fun j _ => (intOf j).toNat)
      case atStart => exact ⟨i, _, rfl, HI0.out, HO.out, HR.out⟩
      case round =>
        obtain ⟨k, cur, rfl, hins, hcur, hgz⟩ := hrel
        have hkl := insL_len hins (by rw [HL.out]; exact hlt)
        have hki : k ≤ i := hkl.2
        have hcl : cur.length = n := by rw [hkl.1, HL.out]
        have HCL := Lib.hid hcl
        have HIN := Lib.hid hins
        have HC := Lib.hid hcur
        have HZ := Lib.hid hgz
        clear hkl hcl hins hcur hgz
        by_cases hk0 : k = 0
        · subst hk0
          have HE := Lib.hid (ins_zero HIN.out)
          have hd : decide ((0 : Int) < 0) = false := rfl
          go_wp2_with fail
          go_quiet (fail)
          go_wp2
          go_roundw
          case rel => exact ⟨i + 1, by omega, by omega, by go_num, by rw [← HE.out]; exact HC.out, gr_drewN HZ.out _⟩
          case measure => simp [intOf]; omega
        · obtain ⟨k, rfl⟩ : ∃ k', k = k' + 1 := ⟨k - 1, by omega⟩
          obtain ⟨q, hy, hly, hln⟩ := ins_prev HIN.out
          obtain ⟨px, py, pz⟩ := p
          obtain ⟨qx, qy, qz⟩ := q
          have hp := ins_at HIN.out
          have HKC := Lib.hid (fun (V : World) (h : OwnE 3 enc3 28 base V (.slice (some ⟨g, 0, none⟩) n c) cur) => (⟨h.cell3 hp, h.cell3 hy⟩ : (V.cell? ⟨g, (k + 1) * 3, none⟩ = some (.int .i64 px) ∧ V.cell? ⟨g, (k + 1) * 3 + 1, none⟩ = some (.int .i64 py) ∧ V.cell? ⟨g, (k + 1) * 3 + 2, none⟩ = some (.int .i64 pz)) ∧ (V.cell? ⟨g, k * 3, none⟩ = some (.int .i64 qx) ∧ V.cell? ⟨g, k * 3 + 1, none⟩ = some (.int .i64 qy) ∧ V.cell? ⟨g, k * 3 + 2, none⟩ = some (.int .i64 qz))))
          have x1 : IntKind.i64.wrap ((k : Int) + 1 - 1) = (k : Int) := by rw [IntWalk.i64_in _ (by omega)]; omega
          have x2 : (0 : Int) < (k : Int) + 1 := by omega
          have x3 : (0 : Int) ≤ (k : Int) + 1 := by omega
          have x4 : (k : Int) + 1 < (n : Int) := by omega
          have x5 : ((k : Int) + 1).toNat = k + 1 := by omega
          have x6 : (0 : Int) ≤ (k : Int) := by omega
          have x7 : (k : Int) < (n : Int) := by omega
          have HLY := Lib.hid hly
          have HLN := Lib.hid hln
          have HCM := Lib.hid (fun W => cmpP_any px py pz qx qy qz W)
          have HLC := Lib.hid (less_cmp ⟨px, py, pz⟩ ⟨qx, qy, qz⟩)
          clear hy hly hln hp
          generalize orV (cmpI px qx) (cmpI qy py) = cv at *
          have HCd := Lib.hid HC.out.drew
          have HD0 := Lib.hid (Below.refl wr.heap.size wr).drew
          obtain ⟨wz, rfl⟩ : ∃ wz, wz = wr := ⟨_, rfl⟩
          have y1 : IntKind.i64.wrap (((k + 1 : Nat) : Int) - 1) = (k : Int) := by rw [IntWalk.i64_in _ (by omega)]; omega
          have y4 : ((k + 1 : Nat) : Int) < (n : Int) := by omega
          have y3 : (0 : Int) ≤ ((k + 1 : Nat) : Int) := by omega
          have y5 : IntKind.i64.wrap (k : Int) = (k : Int) := IntWalk.i64_in _ (by omega)
          have y6 : k < n := by omega
          go_wp2_with fail
          go_region_held3 (fun V => (V.cell? ⟨g, (k + 1) * 3, none⟩ = some (.int .i64 px) ∧ V.cell? ⟨g, (k + 1) * 3 + 1, none⟩ = some (.int .i64 py) ∧ V.cell? ⟨g, (k + 1) * 3 + 2, none⟩ = some (.int .i64 pz)) ∧ (V.cell? ⟨g, k * 3, none⟩ = some (.int .i64 qx) ∧ V.cell? ⟨g, k * 3 + 1, none⟩ = some (.int .i64 qy) ∧ V.cell? ⟨g, k * 3 + 2, none⟩ = some (.int .i64 qz)))
            (first | exact HKC.out _ HCd.out | exact HKC.out _ HC.out | exact HKC.out _ HC2.out | fail)
            (first
              | (go_at_call 78; (refine (HCM.out _).mono ?_); rintro e w2 ⟨rfl, hb2⟩; have HB2 := Lib.hid (below_trans HD0.out hb2); have HC2 := Lib.hid (HC.out.below HB2.out (Nat.le_refl _)); have HZ2 := Lib.hid (grown_below HZ.out HB2.out); clear hb2)
              | fail)
          by_cases hxy : cv < 0
          · have HN := Lib.hid (HLY.out (HLC.out.1 hxy))
            obtain ⟨⟨c0, c1, c2⟩, d0, d1, d2⟩ := HKC.out _ HC2.out
            have f0 := HC2.out.frozen
            clear HC HZ HCd HD0 HB2
            go_wp2_with fail
            go_region
            go_wp2
            go_roundw
            case rel =>
              have s1 := own3_set HC2.out HCL.out (j := k + 1) (by omega) qx qy qz
              have s2 := own3_set s1.1 (by rw [List.length_set]; exact HCL.out) (j := k) (by omega) px py pz
              exact ⟨k, _, by go_num, HN.out, s2.1.drew, gr_drew (grown_trans (grown_trans HZ2.out s1.2) s2.2)⟩
            case measure => simp [intOf]
          · have HE := Lib.hid (HLN.out (by have := HLC.out; rw [Bool.eq_false_iff]; exact fun h => hxy (this.2 h)))
            go_wp2_with fail
            go_roundw
            case rel => exact ⟨i + 1, by omega, by omega, by go_num, by rw [← HE.out]; exact HC2.out, HZ2.out⟩
            case measure => simp [intOf]; omega
    · have e1 : l.take i = l := List.take_of_length_le (by rw [HL.out]; omega)
      have e2 : l.drop i = [] := List.drop_eq_nil_of_le (by rw [HL.out]; omega)
      rw [e1, e2, List.append_nil] at HO
      clear e1 e2
      go_wp2
      go_end0
      exact ⟨rfl, HO.out, HR.out⟩
end Go.Proofs.Ytdfgogcefnamcaa
