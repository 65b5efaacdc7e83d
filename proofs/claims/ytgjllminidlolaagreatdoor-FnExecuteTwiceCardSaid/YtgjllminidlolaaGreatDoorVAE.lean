/- Texts of mine in one: SWalkI RWalkA. -/
import Derived.Test.YtgjllminidlolaaGreatDoorVAD
import Derived.Test.YtgjllminidlolaaGreatDoorVAC
import Derived.Test.YtgjllminidlolaaGreatDoorVAA
import Derived.Deep.QuietTactic
import Derived.BigQuiet
import Derived.Deep.Cut
/- Contracts: l4Least and SeatingMake of the reference. -/
set_option linter.unusedVariables false
namespace Go.Proofs.YtgjllminidlolaaGreatDoor
open Go.RowKit

set_option maxRecDepth 20000 in
set_option maxHeartbeats 6400000 in
theorem l4Least_any (A B : Option Addr) (len cap cap2 i pk : Nat) (xs : List B3) (out : List Int) (p : B3) (w : World) (h : SlE 3 encB w A len xs) (h2 : SlE 1 encI w B len out) (hn : len ≤ 16) (hx : xs[i]? = some p)
    (hfr : blk xs out p pk = false) (hlow : ∀ t : Nat, t < pk → blk xs out p t = true) (hpk : pk ≤ 6) :
    Calls Tryz.prog 49 #[.slice A len cap, .slice B len cap2, .int .i64 i] w (Only (.int .i64 pk) w) := by
  have H := Lib.hid h
  have H2 := Lib.hid h2
  have HX := Lib.hid hx
  have HFR := Lib.hid hfr
  have HLO := Lib.hid hlow
  have hil : i < len := by rw [← h.len]; exact (List.getElem?_eq_some_iff.1 hx).1
  clear h h2 hx hfr hlow
  obtain ⟨x, y, z⟩ := p
  have i0 : (0 : Int) ≤ (i : Int) := by omega
  have i1 : (i : Int) < (len : Int) := by omega
  obtain ⟨b, off, x0, y0, z0, rfl, hbl, hx0, hd0, -, -, -⟩ := atB H.out (Below.refl _ w) hil
  obtain ⟨b2, off2, o0, rfl, hbl2, ho0, hd2, -⟩ := at1 H2.out (Below.refl _ w) hil
  clear hx0 hd0 ho0 hd2
  go_enter Tryz.func49, Tryz.ntmps49
  go_wp2_with fail
  go_loopw [7, 8] (fun q i wr => ∃ s k : Nat, s ≤ pk ∧ k ≤ len ∧ q = .int .i64 s ∧ i = .int .i64 k ∧ (∀ (m : Nat) r, m < k → xs[m]? = some r → out[m]? = some (s : Int) → ¬ meetB ⟨x, y, z⟩ r) ∧ Below w.heap.size w wr) (fun q i _ => (pk - (intOf q).toNat) * 17 + (len - (intOf i).toNat))
  case atStart => exact ⟨0, 0, by omega, by omega, rfl, rfl, fun m r hm => absurd hm (by omega), Below.refl _ _⟩
  case round =>
    obtain ⟨s, k, hs, hk, rfl, rfl, hno, hb⟩ := hrel
    have HNO := Lib.hid hno
    have HR := Lib.hid hb
    clear hno hb
    by_cases hkl : k < len
    rotate_left
    · have hsp : s = pk := by
        by_cases e : s < pk
        · obtain ⟨m, r, m1, m2, m3⟩ := (blk_iff _ _ _ _).1 (HLO.out s e)
          exact absurd m3 (HNO.out m r (by have := (List.getElem?_eq_some_iff.1 m1).1; rw [H.out.len] at this; omega) m1 m2)
        · omega
      subst hsp
      go_wp2_with fail
      go_ret
      exact ⟨rfl, HR.out⟩
    have j0 : (0 : Int) ≤ (k : Int) := by omega
    have j1 : (k : Int) < (len : Int) := by omega
    obtain ⟨g0, g1, g2⟩ := cellB_of H.out HR.out HX.out
    obtain ⟨⟨x', y', z'⟩, hx'⟩ : ∃ q, xs[k]? = some q := ⟨_, List.getElem?_eq_getElem (by rw [H.out.len]; exact hkl)⟩
    obtain ⟨o, ho⟩ : ∃ q, out[k]? = some q := ⟨_, List.getElem?_eq_getElem (by rw [H2.out.len]; exact hkl)⟩
    obtain ⟨q0, q1, q2⟩ := cellB_of H.out HR.out hx'
    have m0 := cell1_of H2.out HR.out ho
    have HX' := Lib.hid hx'
    have HO' := Lib.hid ho
    clear hx' ho
    by_cases hoo : o = (s : Int)
    rotate_left
    · have d0 : (o == (s : Int)) = false := by simpa using hoo
      have HNX : Hid (∀ (m : Nat) r, m < k + 1 → xs[m]? = some r → out[m]? = some (s : Int) → ¬ meetB ⟨x, y, z⟩ r) := fun m r hm h1 h2 => by
        by_cases e : m = k
        · subst e
          rw [HO'.out] at h2
          injection h2 with h2
          exact absurd h2 hoo
        · exact HNO.out m r (by omega) h1 h2
      clear hoo
      go_wp2_with fail
      go_quiet (fail)
      go_wp2_with fail
      go_roundw
      case rel => exact ⟨s, k + 1, by omega, by omega, rfl, by go_num, HNX.out, bl_drewN HR.out _⟩
      case measure => simp [intOf]; omega
    subst hoo
    have HQd := Lib.hid HR.out.drew
    have HKEEP := Lib.hid (fun (W : World) (hW : Below w.heap.size w W) => show W.cell? ⟨b2, off2 + k, none⟩ = some (.int .i64 (s : Int)) ∧ W.cell? ⟨b, off + i * 3, none⟩ = some (.int .i64 x) ∧ W.cell? ⟨b, off + i * 3 + 1, none⟩ = some (.int .i64 y) ∧ W.cell? ⟨b, off + i * 3 + 2, none⟩ = some (.bool z) ∧ W.cell? ⟨b, off + k * 3, none⟩ = some (.int .i64 x') ∧ W.cell? ⟨b, off + k * 3 + 1, none⟩ = some (.int .i64 y') ∧ W.cell? ⟨b, off + k * 3 + 2, none⟩ = some (.bool z') from by
      obtain ⟨u0, u1, u2⟩ := cellB_of H.out hW HX.out
      obtain ⟨v0, v1, v2⟩ := cellB_of H.out hW HX'.out
      exact ⟨cell1_of H2.out hW HO'.out, u0, u1, u2, v0, v1, v2⟩)
    by_cases hm : meetB ⟨x, y, z⟩ ⟨x', y', z'⟩
    · have HM := Lib.hid hm
      have hsp : s < pk := by
        by_cases e : s = pk
        · subst e
          have := (blk_iff xs out ⟨x, y, z⟩ s).2 ⟨k, _, HX'.out, HO'.out, hm⟩
          rw [HFR.out] at this
          cases this
        · omega
      clear hm
      go_wp2_with fail
      go_region_held3 (fun w' => w'.cell? ⟨b2, off2 + k, none⟩ = some (.int .i64 (s : Int)) ∧ w'.cell? ⟨b, off + i * 3, none⟩ = some (.int .i64 x) ∧ w'.cell? ⟨b, off + i * 3 + 1, none⟩ = some (.int .i64 y) ∧ w'.cell? ⟨b, off + i * 3 + 2, none⟩ = some (.bool z) ∧ w'.cell? ⟨b, off + k * 3, none⟩ = some (.int .i64 x') ∧ w'.cell? ⟨b, off + k * 3 + 1, none⟩ = some (.int .i64 y') ∧ w'.cell? ⟨b, off + k * 3 + 2, none⟩ = some (.bool z')) (first | exact ⟨m0, g0, g1, g2, q0, q1, q2⟩ | exact HKEEP.out _ HB4.out | go_keep)
        (first | (go_at_call 86; (with_reducible_and_instances refine (l4Meet_any ⟨x, y, z⟩ ⟨x', y', z'⟩ _).mono ?_); intro e w4 hp; obtain ⟨rfl, hb4⟩ := hp.yes HM.out; have HB4 := Lib.hid (below_trans HQd.out hb4); clear hp hb4) | fail)
      go_wp2_with fail
      go_roundw
      case rel => exact ⟨s + 1, 0, by omega, by omega, by go_num, rfl, fun m r hm => absurd hm (by omega), HB4.out⟩
      case measure => simp [intOf]; omega
    · have HM : Hid (¬ meetB ⟨x, y, z⟩ ⟨x', y', z'⟩) := hm
      have HNX : Hid (∀ (m : Nat) r, m < k + 1 → xs[m]? = some r → out[m]? = some (s : Int) → ¬ meetB ⟨x, y, z⟩ r) := fun m r hmk h1 h2 => by
        by_cases e : m = k
        · subst e
          rw [HX'.out] at h1
          injection h1 with h1
          subst h1
          exact hm
        · exact HNO.out m r (by omega) h1 h2
      clear hm
      go_wp2_with fail
      go_region_held3 (fun w' => w'.cell? ⟨b2, off2 + k, none⟩ = some (.int .i64 (s : Int)) ∧ w'.cell? ⟨b, off + i * 3, none⟩ = some (.int .i64 x) ∧ w'.cell? ⟨b, off + i * 3 + 1, none⟩ = some (.int .i64 y) ∧ w'.cell? ⟨b, off + i * 3 + 2, none⟩ = some (.bool z) ∧ w'.cell? ⟨b, off + k * 3, none⟩ = some (.int .i64 x') ∧ w'.cell? ⟨b, off + k * 3 + 1, none⟩ = some (.int .i64 y') ∧ w'.cell? ⟨b, off + k * 3 + 2, none⟩ = some (.bool z')) (first | exact ⟨m0, g0, g1, g2, q0, q1, q2⟩ | exact HKEEP.out _ HB4.out | go_keep)
        (first | (go_at_call 86; (with_reducible_and_instances refine (l4Meet_any ⟨x, y, z⟩ ⟨x', y', z'⟩ _).mono ?_); intro e w4 hp; obtain ⟨rfl, hb4⟩ := hp.no HM.out; have HB4 := Lib.hid (below_trans HQd.out hb4); clear hp hb4) | fail)
      go_wp2_with fail
      go_roundw
      case rel => exact ⟨s, k + 1, by omega, by omega, rfl, by go_num, HNX.out, HB4.out⟩
      case measure => simp [intOf]; omega

set_option maxRecDepth 20000 in
set_option maxHeartbeats 800000 in
theorem specSeatingMake_no (A : Option Addr) (n : Int) (len cap : Nat) (xs : List B3) (w : World) (h : SlE 3 encB w A len xs) (hn : len ≤ 16777216) (hok : ¬ BookOk n xs) :
    Calls Tryz.prog 17 #[.int .i64 n, .slice A len cap] w (RetOwnB 1 encI 3 [] false w) := by
  have H := Lib.hid h
  have HN := Lib.hid hok
  clear h hok
  go_enter Tryz.func17, Tryz.ntmps17
  go_wp2_with fail
  refine (specBookingsValid_any A n len cap xs w H.out hn).mono ?_
  intro e w2 hp
  obtain ⟨rfl, hb⟩ := hp.no HN.out
  have HB := Lib.hid hb
  have hz := hb.size
  clear hp hb
  go_wp2_with fail
  go_ret2
  exact ⟨_, rfl, own_new w2 3 w.heap.size hz encI_len [] #[] rfl (by simp) rfl, below_alloc HB.out _⟩
set_option maxRecDepth 20000 in
set_option maxHeartbeats 6400000 in
theorem specSeatingMake_yes (A : Option Addr) (n len cap : Nat) (xs : List B3) (w : World) (h : SlE 3 encB w A len xs) (hok : BookOk n xs) :
    Calls Tryz.prog 17 #[.int .i64 n, .slice A len cap] w (RetOwnB 1 encI 3 (plan xs n) true w) := by
  have H := Lib.hid h
  have HL := Lib.hid h.len
  have HOK := Lib.hid hok
  have hn1 := hok.1
  have hn7 := hok.2.1
  have hm : len ≤ 16 := by have := hok.2.2.1; rw [HL.out] at this; exact this
  have HW := Lib.hid (okB_w hn7 hok.2.2.2.1)
  have HPL := Lib.hid (fun s => (plan_len hok s).trans h.len)
  clear hok h
  go_enter Tryz.func17, Tryz.ntmps17
  go_wp2_with fail
  refine (specBookingsValid_any A n len cap xs w H.out (by omega)).mono ?_
  intro e w2 hp
  obtain ⟨rfl, hb⟩ := hp.yes HOK.out
  have hg0 := hb.size
  have HB := Lib.hid hb
  have HO0 := Lib.hid (own_new (enc := encI) (k := 1) w2 3 w.heap.size hg0 encI_len [] #[] rfl (by simp) rfl)
  clear hp hb
  go_wp2_with fail
  obtain ⟨W0, rfl⟩ : ∃ W0, W0 = w2 := ⟨_, rfl⟩
  go_loopw [6, 7] (fun v i wr => ∃ k : Nat, k ≤ len ∧ i = .int .i64 k ∧ OwnE 1 encI 3 w.heap.size wr v (List.replicate k (-1)) ∧ Below w.heap.size w wr) (fun _ i _ => len - (intOf i).toNat)
  case atStart => exact ⟨0, by omega, rfl, HO0.out, below_alloc HB.out _⟩
  case round =>
    obtain ⟨k, hk, rfl, hown, hb⟩ := hrel
    have HO := Lib.hid hown
    have HR := Lib.hid hb
    have hsz := hb.size
    clear hown hb HB HO0
    by_cases hkl : k < len
    · go_wp2_with (at_builtin; refine wpList_push 1 8 3 encI encI_len encI_one (by omega) (-1) _ _ rfl rfl _ _ _ rfl Tryz.underlying29 info_intN rfl w.heap.size _ (List.replicate k (-1)) rfl rfl (by simp) HO.out (by simp; omega) (by simp [maxLen]; omega) hsz ?_; intro v' w' hown' hg'; have HO' := Lib.hid hown'; have HB' := Lib.hid (below_grown HR.out hg' HO.out (Nat.le_refl _)); clear hown' hg')
      go_roundw
      case rel => exact ⟨k + 1, by omega, by go_num, by have := HO'.out; rwa [← List.replicate_succ'] at this, HB'.out⟩
      case measure => simp [intOf]; omega
    have e : k = len := by omega
    subst e
    obtain ⟨B, c2, rfl, -, hc2⟩ := HO.out.slc encI_len (n := k) (by simp)
    have HP0 : Hid (OwnE 1 encI 3 w.heap.size wr (.slice B k c2) (plan xs 0)) := by
      have := HO.out
      rw [← HL.out] at this
      rw [HL.out] at this
      rw [plan, HL.out]
      exact this
    clear HO
    go_wp2_with fail
    obtain ⟨W1, rfl⟩ : ∃ W1, W1 = wr := ⟨_, rfl⟩
    go_loopw [8, 9] (fun i _ wr => ∃ st : Nat, st ≤ n ∧ i = .int .i64 st ∧ OwnE 1 encI 3 w.heap.size wr (.slice B k c2) (plan xs st) ∧ Below w.heap.size w wr) (fun i _ _ => n - (intOf i).toNat)
    case atStart => exact ⟨0, by omega, rfl, HP0.out, HR.out⟩
    case round =>
      obtain ⟨st, hst, rfl, hown, hb⟩ := hrel
      have HM := Lib.hid hown
      have HR1 := Lib.hid hb
      clear hown hb HP0 HR
      by_cases hlt : st < n
      rotate_left
      · have e : st = n := by omega
        subst e
        go_wp2_with fail
        go_ret2
        exact ⟨_, rfl, HM.out, HR1.out⟩
      have HIN := Lib.hid (fun j hj => inn_is HOK.out (plan_is HOK.out st) j hj)
      go_wp2_with fail
      obtain ⟨W2, rfl⟩ : ∃ W2, W2 = wr := ⟨_, rfl⟩
      go_loopw [9] (fun i wr => ∃ j : Nat, j ≤ k ∧ i = .int .i64 j ∧ OwnE 1 encI 3 w.heap.size wr (.slice B k c2) (inn xs st (plan xs st) j) ∧ Below w.heap.size w wr) (fun i _ => k - (intOf i).toNat)
      case atStart => exact ⟨0, by omega, rfl, HM.out, HR1.out⟩
      case round =>
        obtain ⟨j, hj, rfl, hown, hb⟩ := hrel
        have HM2 := Lib.hid hown
        have HR2 := Lib.hid hb
        clear hown hb HM HR1
        by_cases hjl : j < k
        rotate_left
        · have e : j = k := by omega
          have HE := Lib.hid (show inn xs st (plan xs st) j = plan xs (st + 1) by rw [e, plan, HL.out])
          clear e
          go_wp2_with fail
          go_roundw
          case rel => exact ⟨st + 1, by omega, by go_num, by rw [← HE.out]; exact HM2.out, HR2.out⟩
          case measure => simp [intOf]; omega
        obtain ⟨b, off, x, y, z, rfl, hbl, hx, hd, g0, g1, g2⟩ := atB H.out HR2.out hjl
        have HX := Lib.hid hx
        have HNX := Lib.hid (inn_next (stop := st) (out0 := plan xs st) hx)
        have HPI := Lib.hid (HIN.out j (by rw [HL.out]; omega))
        have i0 : (0 : Int) ≤ (j : Int) := by omega
        have i1 : (j : Int) < (k : Int) := by omega
        clear hx hd
        generalize inn xs st (plan xs st) j = out at *
        by_cases hxs : x = st
        rotate_left
        · have d0 : (x == (st : Int)) = false := by simpa using hxs
          have HE := Lib.hid (show inn xs st (plan xs st) (j + 1) = out by rw [HNX.out, if_neg (by exact hxs)])
          clear hxs
          go_wp2_with fail
          go_roundw
          case rel => exact ⟨j + 1, by omega, by go_num, by rw [HE.out]; exact HM2.out, HR2.out⟩
          case measure => simp [intOf]; omega
        subst hxs
        have HE := Lib.hid (show inn xs st (plan xs st) (j + 1) = out.set j (pick xs out ⟨st, y, z⟩) by rw [HNX.out, if_pos rfl])
        obtain ⟨hi, hplt, hfr, hlow, htk⟩ := plan_pick HOK.out HPI.out HX.out rfl
        have HOL := Lib.hid (HPI.out.1.trans HL.out)
        have hcb := capOf_bd z
        have HLE := Lib.hid (fun (W : World) (h1 : SlE 3 encB W (some ⟨b, off, none⟩) k xs) (h2 : SlE 1 encI W B k out) => l4Least_any (some ⟨b, off, none⟩) B k cap c2 j (pick xs out ⟨st, y, z⟩) xs out ⟨st, y, z⟩ W h1 h2 hm HX.out hfr hlow (by dsimp only at hplt; omega))
        have d0 : ((st : Int) == (st : Int)) = true := by simp
        clear hfr hlow htk HNX HPI hi hcb
        generalize hpk : pick xs out ⟨st, y, z⟩ = pk at *
        clear hpk hplt
        obtain ⟨g, rfl, -, hg1, hg2, hfz⟩ := HM2.out.form (by rw [HOL.out]; omega)
        go_wp2_with fail
        refine (HLE.out _ (H.out.below HR2.out) (sl_of_own_at encI_len HM2.out HOL.out)).mono ?_
        rintro e w6 ⟨rfl, hb6⟩
        have HR6 := Lib.hid (below_trans HR2.out hb6)
        have hown6 := HM2.out.below hb6 (Nat.le_refl _)
        have HO6 := Lib.hid (own1_set hown6 HOL.out j (pk : Int))
        obtain ⟨o, ho⟩ : ∃ o, out[j]? = some o := ⟨_, List.getElem?_eq_getElem (by rw [HOL.out]; exact hjl)⟩
        have hcl := OwnE.cell1 hown6 ho
        have hf6 := OwnE.frozen hown6 j
        clear hb6 hown6 ho hfz d0
        go_wp2_with fail
        go_roundw
        case rel => exact ⟨j + 1, by omega, by go_num, by rw [HE.out]; exact HO6.out.1, below_own HR6.out HO6.out.2 hg1⟩
        case measure => simp [intOf]; omega
end Go.Proofs.YtgjllminidlolaaGreatDoor
/- Contracts: roads of the reference: whether they are roads, where a road lies. -/
set_option linter.unusedVariables false
namespace Go.Proofs.YtgjllminidlolaaGreatDoor
open Go.RowKit

set_option maxRecDepth 20000 in
set_option maxHeartbeats 3200000 in
theorem specRoadsValid_any (A : Option Addr) (n : Int) (len cap : Nat) (xs : List T3) (w : World) (h : SlE 3 enc3 w A len xs) (hn : len ≤ 16777216) (h1 : -1000000 ≤ n) (h2 : n ≤ 1000000) :
    Calls Tryz.prog 93 #[.int .i64 n, .slice A len cap] w (OnlyB (RoadOk n xs) w) := by
  have H := Lib.hid h
  have hxl := h.len
  have HL := Lib.hid hxl
  clear h hxl
  by_cases hr : 1 ≤ n ∧ n ≤ 8
  rotate_left
  · go_enter Tryz.func93, Tryz.ntmps93
    go_wp2_with (go_at_call 62; refine (l6In_any _ _ _ _).mono ?_; intro e w2 hp; obtain ⟨rfl, rfl⟩ := hp.no hr)
    go_ret
    exact onlyB_false (fun hB => hr ⟨hB.1, hB.2.1⟩) (Below.refl _ _)
  obtain ⟨hr1, hr2⟩ := hr
  by_cases hm : len ≤ 16
  rotate_left
  · have hm' : 16 < (len : Int) := by omega
    go_enter Tryz.func93, Tryz.ntmps93
    go_wp2_with (go_at_call 62; refine (l6In_any _ _ _ _).mono ?_; intro e w2 hp; obtain ⟨rfl, rfl⟩ := hp.yes ⟨hr1, hr2⟩)
    go_ret
    exact onlyB_false (fun hB => hm (by have := hB.2.2.1; rw [HL.out] at this; exact this)) (Below.refl _ _)
  have hm' : (len : Int) ≤ 16 := by omega
  go_enter Tryz.func93, Tryz.ntmps93
  go_wp2_with (go_at_call 62; refine (l6In_any _ _ _ _).mono ?_; intro e w2 hp; obtain ⟨rfl, rfl⟩ := hp.yes ⟨hr1, hr2⟩)
  go_loopw [5, 6, 7] (fun i _ _ wr => ∃ j : Nat, j ≤ len ∧ i = .int .i64 j ∧ RoadPre n (xs.take j) ∧ Below w.heap.size w wr) (fun i _ _ _ => len - (intOf i).toNat)
  case atStart => exact ⟨0, by omega, rfl, pre_nil n xs, Below.refl _ _⟩
  case round =>
    obtain ⟨j, hj, rfl, hpre, hbr⟩ := hrel
    have HR := Lib.hid hbr
    have HP := Lib.hid hpre
    clear hbr hpre
    by_cases hlt : j < len
    rotate_left
    · have hx : xs.take j = xs := List.take_of_length_le (by have := HL.out; omega)
      rw [hx] at HP
      clear hx
      go_wp2
      go_ret
      exact onlyB_true ⟨hr1, hr2, by rw [HL.out]; exact hm, HP.out⟩ HR.out
    obtain ⟨b, off, x, y, z, rfl, hbl, hx, hd, g0, g1, g2⟩ := at3 H.out HR.out hlt
    have HX := Lib.hid hx
    have HBX := Lib.hid (below_alloc HR.out (.cells #[.int .i64 x, .int .i64 y, .int .i64 z] 43))
    clear hd hx
    by_cases hok : OkR n ⟨x, y, z⟩
    rotate_left
    · have HK := Lib.hid hok
      clear hok
      have hxb := HL.out
      by_cases k1 : 0 ≤ x ∧ x ≤ n - 1
      rotate_left
      · go_wp2_with (go_at_call 62; refine (l6In_any _ _ _ _).mono ?_; intro e w2 hp; obtain ⟨rfl, rfl⟩ := hp.no k1)
        go_ret
        exact onlyB_false (road_bad HX.out HK.out) HBX.out
      by_cases k2 : x + 1 ≤ y ∧ y ≤ n - 1
      rotate_left
      · go_wp2_with fail
        refine (l6In_any _ _ _ _).mono ?_
        intro e w2 hp
        obtain ⟨rfl, rfl⟩ := hp.yes k1
        clear hp
        go_wp2_with fail
        refine (l6In_any _ _ _ _).mono ?_
        intro e w2 hp
        obtain ⟨rfl, rfl⟩ := hp.no k2
        clear hp
        go_wp2_with fail
        go_ret
        exact onlyB_false (road_bad HX.out HK.out) HBX.out
      have k3 : ¬ (1 ≤ z ∧ z ≤ 99) := fun h => HK.out (by unfold OkR; dsimp only; omega)
      go_wp2_with fail
      refine (l6In_any _ _ _ _).mono ?_
      intro e w2 hp
      obtain ⟨rfl, rfl⟩ := hp.yes k1
      clear hp
      go_wp2_with fail
      refine (l6In_any _ _ _ _).mono ?_
      intro e w2 hp
      obtain ⟨rfl, rfl⟩ := hp.yes k2
      clear hp
      go_wp2_with fail
      refine (l6In_any _ _ _ _).mono ?_
      intro e w2 hp
      obtain ⟨rfl, rfl⟩ := hp.no k3
      clear hp
      go_wp2_with fail
      go_ret
      exact onlyB_false (road_bad HX.out HK.out) HBX.out
    have HK := Lib.hid hok
    unfold OkR at hok
    dsimp only at hok
    have k1 : 0 ≤ x ∧ x ≤ n - 1 := by omega
    have k2 : x + 1 ≤ y ∧ y ≤ n - 1 := by omega
    have k3 : 1 ≤ z ∧ z ≤ 99 := by omega
    clear hok
    go_wp2_with fail
    refine (l6In_any _ _ _ _).mono ?_
    intro e w2 hp
    obtain ⟨rfl, rfl⟩ := hp.yes k1
    clear hp
    go_wp2_with fail
    refine (l6In_any _ _ _ _).mono ?_
    intro e w2 hp
    obtain ⟨rfl, rfl⟩ := hp.yes k2
    clear hp
    go_wp2_with fail
    refine (l6In_any _ _ _ _).mono ?_
    intro e w2 hp
    obtain ⟨rfl, rfl⟩ := hp.yes k3
    clear hp
    have hc : ∀ W, Below (wr.alloc (.cells #[.int .i64 x, .int .i64 y, .int .i64 z] 43)).heap.size (wr.alloc (.cells #[.int .i64 x, .int .i64 y, .int .i64 z] 43)) W → W.cell? ⟨wr.heap.size, 0, none⟩ = some (.int .i64 x) ∧ W.cell? ⟨wr.heap.size, 1, none⟩ = some (.int .i64 y) := by
      intro W hW
      have hr : ∀ j, W.cell? ⟨wr.heap.size, j, none⟩ = (#[.int .i64 x, .int .i64 y, .int .i64 z] : Array Value)[j]? := fun j => by
        rw [hW.cell (p := ⟨wr.heap.size, j, none⟩) (by simp)]
        exact cell_of_row _ _ j _ 43 (0, 0) (heap_alloc_new wr _)
      exact ⟨hr 0, hr 1⟩
    have HC := Lib.hid hc
    clear hc
    obtain ⟨w0, rfl⟩ : ∃ w0, w0 = wr := ⟨_, rfl⟩
    go_wp2_with fail
    go_loopw [7] (fun i wr => ∃ k : Nat, k ≤ j ∧ i = .int .i64 k ∧ NoTwin xs k x y ∧ Below (w0.alloc (.cells #[.int .i64 x, .int .i64 y, .int .i64 z] 43)).heap.size (w0.alloc (.cells #[.int .i64 x, .int .i64 y, .int .i64 z] 43)) wr) (fun i _ => j - (intOf i).toNat)
    case atStart => exact ⟨0, by omega, rfl, twin_nil _ _ _, Below.refl _ _⟩
    case round =>
      obtain ⟨k, hk, rfl, htw, hbr⟩ := hrel
      have HT := Lib.hid htw
      have HR2 := Lib.hid hbr
      have HB2 := Lib.hid (below_trans HBX.out hbr)
      clear htw hbr
      by_cases hkj : k < j
      · have hkl : k < len := by omega
        obtain ⟨b', off', u, v, t, he, hbl', hx', hd', f0, f1, f2⟩ := at3 H.out HB2.out hkl
        simp only [Option.some.injEq, Addr.mk.injEq, and_true] at he
        obtain ⟨rfl, rfl⟩ := he
        have HX' := Lib.hid hx'
        obtain ⟨q0, q1⟩ := HC.out _ HR2.out
        clear hd' hx' g0 g1 g2
        by_cases e1 : u = x
        · have d1 : (u == x) = true := by simpa using e1
          by_cases e2 : v = y
          · have d2 : (v == y) = true := by simpa using e2
            have HD := Lib.hid (road_dup (n := n) hkj HX'.out HX.out ⟨e1, e2⟩)
            clear e1 e2
            go_wp2_with fail
            go_quiet (fail)
            go_wp2_with fail
            go_ret
            exact onlyB_false HD.out (bl_drewN HB2.out _)
          · have d2 : (v == y) = false := by simpa using e2
            have HTW := Lib.hid (twin_next HT.out HX'.out (fun h => e2 h.2))
            clear e1 e2
            go_wp2_with fail
            go_quiet (fail)
            go_wp2_with fail
            go_roundw
            case rel => exact ⟨k + 1, by omega, by go_num, HTW.out, bl_drewN HR2.out _⟩
            case measure => simp [intOf]; omega
        · have d1 : (u == x) = false := by simpa using e1
          have HTW := Lib.hid (twin_next HT.out HX'.out (fun h => e1 h.1))
          clear e1
          go_wp2_with fail
          go_quiet (fail)
          go_wp2_with fail
          go_roundw
          case rel => exact ⟨k + 1, by omega, by go_num, HTW.out, bl_drewN HR2.out _⟩
          case measure => simp [intOf]; omega
      · obtain rfl : k = j := by omega
        go_wp2_with fail
        go_roundw
        case rel => exact ⟨k + 1, by omega, by go_num, pre_next HP.out HX.out HK.out HT.out, HB2.out⟩
        case measure => simp [intOf]; omega
end Go.Proofs.YtgjllminidlolaaGreatDoor
