/- Texts of mine in one: SWalkH SWalkI SDrawA RWalkA. -/
import Derived.Test.YtgjllminidlolaaGreatDoorMAD
import Derived.OwnWalk
import Derived.Test.YtgjllminidlolaaGreatDoorMAC
import Derived.Test.YtgjllminidlolaaGreatDoorMAA
import Derived.Deep.QuietTactic
import Derived.BigQuiet
import Derived.Deep.Cut
/- Contracts: SeatingMake of the program. -/
set_option linter.unusedVariables false
namespace Go.Proofs.YtgjllminidlolaaGreatDoor
open Go.RowKit

def zmax (o : Int) : Int := max o 0
theorem zmax_of {o : Int} (h : 0 ≤ o) : zmax o = o := by unfold zmax; omega
/-- A seating under way: the seats of the program (0 where none is given yet), and the coach. -/
def MakeAt (w : World) (g h len : Nat) (xs : List B3) (out : List Int) (W : World) : Prop :=
  OwnE 1 encI 3 w.heap.size W (.slice (some ⟨g, 0, none⟩) len len) (out.map zmax) ∧ CoachAt W h (occS xs out) ∧ Below w.heap.size w W
theorem MakeAt.below {w W W' : World} {g h len : Nat} {xs : List B3} {out : List Int} (m : MakeAt w g h len xs out W) (hb : Below W.heap.size W W') : MakeAt w g h len xs out W' :=
  ⟨m.1.below hb (Nat.le_refl _), m.2.1.below hb, below_trans m.2.2 hb⟩
theorem CoachAt.grown {w w' : World} {g : Nat} {S : Bool → Nat → Nat} {row : Option Nat} (h : CoachAt w g S) (hg : w.grownBy w' row) (hne : row ≠ some g) : CoachAt w' g S := by
  have e := hg.block g h.1 (fun e => hne e.symm)
  have hc : ∀ o, w'.cell? ⟨g, o, none⟩ = w.cell? ⟨g, o, none⟩ := fun o => by unfold World.cell?; rw [e]
  have hf : ∀ o, w'.frozen? ⟨g, o, none⟩ = w.frozen? ⟨g, o, none⟩ := fun o => by unfold World.frozen?; rw [e]
  exact ⟨Nat.lt_of_lt_of_le h.1 hg.size, fun j => (hf j).trans (h.2.1 j), fun k s hs => ⟨(hc _).trans (h.2.2 k s hs).1, (h.2.2 k s hs).2⟩⟩
theorem occS_set {xs : List B3} {out : List Int} {i : Nat} {p : B3} {t : Nat} (hx : xs[i]? = some p) (ho : out[i]? = some (-1)) : takeS (occS xs out) p.c t (legs p.a.toNat p.b.toNat) = occS xs (out.set i t) := by
  funext k s
  simp only [takeS, occS, occ_set xs out i p t k s hx ho (by omega)]
  by_cases e : k = p.c ∧ s = t
  · obtain ⟨rfl, rfl⟩ := e
    rw [if_pos ⟨rfl, rfl⟩, if_pos ⟨rfl, rfl⟩]
  · rw [if_neg e, if_neg (fun h => e ⟨h.1.symm, by omega⟩), Nat.or_zero]
/-- A seat is taken and written down. -/
theorem MakeAt.put {w W W' : World} {g h len i t : Nat} {xs : List B3} {out : List Int} {p : B3} (m : MakeAt w g h len xs out W) (hgh : g < h) (hw : w.heap.size ≤ g) (hl : out.length = len) (hx : xs[i]? = some p) (ho : out[i]? = some (-1))
    (ht : TookW W h (takeS (occS xs out) p.c t (legs p.a.toNat p.b.toNat)) W') : MakeAt w g h len xs (out.set i t) (W'.setCell ⟨g, i, none⟩ (.int .i64 t)) := by
  rw [occS_set hx ho] at ht
  have h1 : OwnE 1 encI 3 w.heap.size W' (.slice (some ⟨g, 0, none⟩) len len) (out.map zmax) := OwnE.apart m.1 ht.2 (.inr fun e => by injection e with e; have e : g = h := e; omega)
  have h2 := own1_set h1 (by rw [List.length_map]; exact hl) i (t : Int)
  refine ⟨?_, ht.1.grown h2.2 (fun e => by injection e with e; omega), ?_⟩
  · have e : (out.set i (t : Int)).map zmax = (out.map zmax).set i (t : Int) := by rw [List.map_set, zmax_of (by omega)]
    rw [e]
    exact h2.1
  · have hb : Below w.heap.size w W' := below_own m.2.2 ht.2 (by omega)
    exact below_own hb h2.2 hw
theorem MakeAt.frozen {w W : World} {g h len : Nat} {xs : List B3} {out : List Int} (m : MakeAt w g h len xs out W) (j : Nat) : W.frozen? ⟨g, j, none⟩ = false := OwnE.frozen m.1 j
theorem MakeAt.cell {w W : World} {g h len : Nat} {xs : List B3} {out : List Int} (m : MakeAt w g h len xs out W) {i : Nat} {o : Int} (ho : out[i]? = some o) : W.cell? ⟨g, i, none⟩ = some (.int .i64 (zmax o)) :=
  OwnE.cell1 m.1 (by rw [List.getElem?_map, ho]; rfl)
theorem MakeAt.end_ {w W : World} {g h len : Nat} {xs : List B3} {out : List Int} (m : MakeAt w g h len xs out W) (ho : ∀ o ∈ out, 0 ≤ o) : RetOwnB 1 encI 3 out true w (.returned (.tuple #[.slice (some ⟨g, 0, none⟩) len len, .bool true])) W := by
  have e : out.map zmax = out := by
    conv => rhs; rw [← List.map_id out]
    exact List.map_congr_left fun o h => zmax_of (ho o h)
  have h1 := m.1
  rw [e] at h1
  exact ⟨_, rfl, h1, m.2.2⟩
theorem plan_nonneg {n : Nat} {xs : List B3} (hB : BookOk n xs) : ∀ o ∈ plan xs n, 0 ≤ o := fun o ho => by
  obtain ⟨k, hk⟩ := List.getElem?_of_mem ho
  have hl := (plan_all hB).1.1
  have hkl := (List.getElem?_eq_some_iff.1 hk).1
  exact ((plan_all hB).1.2.1 k _ o (List.getElem?_eq_getElem (by omega)) hk).1
theorem map_rep (n : Nat) : (List.replicate n (-1 : Int)).map zmax = List.replicate n 0 := by rw [List.map_replicate]; rfl
theorem occS_rep (xs : List B3) (m : Nat) : occS xs (List.replicate m (-1)) = occS [] [] := by
  funext k s
  simp only [occS]
  rw [occ_none _ _ _ _ (by omega)]
  rfl

set_option maxRecDepth 20000 in
set_option maxHeartbeats 800000 in
theorem implSeatingMake_no (A : Option Addr) (n : Int) (len cap : Nat) (xs : List B3) (w : World) (h : SlE 3 encB w A len xs) (hn : len ≤ 16777216) (hok : ¬ BookOk n xs) :
    Calls Tryz.prog 16 #[.int .i64 n, .slice A len cap] w (RetOwnB 1 encI 3 [] false w) := by
  have H := Lib.hid h
  have HN := Lib.hid hok
  clear h hok
  go_enter Tryz.func16, Tryz.ntmps16
  go_wp2_with fail
  refine (implBookingsValid_any A n len cap xs w H.out hn).mono ?_
  intro e w2 hp
  obtain ⟨rfl, hb⟩ := hp.no HN.out
  have HB := Lib.hid hb
  have hz := hb.size
  clear hp hb
  go_wp2_with fail
  go_ret2
  exact ⟨_, rfl, own_new w2 3 w.heap.size hz encI_len [] #[] rfl (by simp) rfl, below_alloc HB.out _⟩
set_option maxRecDepth 20000 in
set_option maxHeartbeats 6400000 in
theorem implSeatingMake_yes (A : Option Addr) (n len cap : Nat) (xs : List B3) (w : World) (h : SlE 3 encB w A len xs) (hok : BookOk n xs) :
    Calls Tryz.prog 16 #[.int .i64 n, .slice A len cap] w (RetOwnB 1 encI 3 (plan xs n) true w) := by
  have H := Lib.hid h
  have HL := Lib.hid h.len
  have HOK := Lib.hid hok
  have hn1 := hok.1
  have hn7 := hok.2.1
  have hm : len ≤ 16 := by have := hok.2.2.1; rw [HL.out] at this; exact this
  have HW := Lib.hid (okB_w hn7 hok.2.2.2.1)
  have HPL := Lib.hid (fun s => (plan_len hok s).trans h.len)
  have HNN := Lib.hid (plan_nonneg hok)
  clear hok h
  have hmk := fun W => run_make_rowN (P := Tryz.prog) 29 3 (.int .i64 0) 1 8 Tryz.underlying29 info_intN .i64 .i64 len (by omega) (by omega) W
  go_enter Tryz.func16, Tryz.ntmps16
  go_wp2_with fail
  refine (implBookingsValid_any A n len cap xs w H.out (by omega)).mono ?_
  intro e w2 hp
  obtain ⟨rfl, hb⟩ := hp.yes HOK.out
  have hg0 := hb.size
  have HM0 : Hid (MakeAt w w2.heap.size (w2.heap.size + 1) len xs (plan xs 0) ((w2.alloc (.cells (madeCells #[.int .i64 0] len) 3)).alloc (.cells #[.int .u64 0, .int .u64 0, .int .u64 0, .int .u64 0, .int .u64 0, .int .u64 0, .int .u64 0, .int .u64 0, .int .u64 0, .int .u64 0] 78))) := by
    have h1 := own_new (enc := encI) (k := 1) w2 3 w.heap.size hg0 encI_len (List.replicate len (0 : Int)) (madeCells #[.int .i64 0] len) (made1 len) (by simp [maxLen]; omega) rfl
    rw [List.length_replicate] at h1
    refine ⟨?_, ?_, below_alloc (below_alloc hb _) _⟩
    · rw [plan, map_rep, HL.out]
      exact OwnE.alloc h1 _
    · rw [plan, occS_rep]
      have := coach_zero (w2.alloc (.cells (madeCells #[.int .i64 0] len) 3)) 78
      simpa using this
  clear hp hb
  go_wp2_with fail
  obtain ⟨W0, rfl⟩ : ∃ W0, W0 = w2 := ⟨_, rfl⟩
  generalize hg : W0.heap.size = g at *
  have HG := Lib.hid hg
  clear hg
  go_loopw [24] (fun i wr => ∃ st : Nat, st ≤ n ∧ i = .int .i64 st ∧ MakeAt w g (g + 1) len xs (plan xs st) wr) (fun i _ => n - (intOf i).toNat)
  case atStart => exact ⟨0, by omega, rfl, HM0.out⟩
  case round =>
    obtain ⟨st, hst, rfl, hmk1⟩ := hrel
    have HM := Lib.hid hmk1
    clear hmk1 HM0
    by_cases hlt : st < n
    rotate_left
    · have e : st = n := by omega
      subst e
      go_wp2_with fail
      go_ret2
      exact HM.out.end_ HNN.out
    have HIN := Lib.hid (fun j hj => inn_is HOK.out (plan_is HOK.out st) j hj)
    go_wp2_with fail
    go_loopw [29] (fun i wr => ∃ j : Nat, j ≤ len ∧ i = .int .i64 j ∧ MakeAt w g (g + 1) len xs (inn xs st (plan xs st) j) wr) (fun i _ => len - (intOf i).toNat)
    case atStart => exact ⟨0, by omega, rfl, HM.out⟩
    case round =>
      obtain ⟨j, hj, rfl, hmk2⟩ := hrel
      have HM2 := Lib.hid hmk2
      clear hmk2 HM
      by_cases hjl : j < len
      rotate_left
      · have e : j = len := by omega
        have HE := Lib.hid (show inn xs st (plan xs st) j = plan xs (st + 1) by rw [e, plan, HL.out])
        clear e
        go_wp2_with fail
        go_roundw
        case rel => exact ⟨st + 1, by omega, by go_num, by rw [← HE.out]; exact HM2.out⟩
        case measure => simp [intOf]; omega
      obtain ⟨b, off, x, y, z, rfl, hbl, hx, hd, g0, g1, g2⟩ := atB H.out HM2.out.2.2 hjl
      have hok := HW.out _ (mem_at hx)
      unfold OkB at hok
      dsimp only at hok
      obtain ⟨x, rfl⟩ : ∃ i : Nat, x = i := ⟨x.toNat, by omega⟩
      obtain ⟨y, rfl⟩ : ∃ i : Nat, y = i := ⟨y.toNat, by omega⟩
      have hxy : x ≤ y := by omega
      have hy7 : y ≤ 7 := by omega
      have HX := Lib.hid hx
      have HMX := Lib.hid (HM2.out.below (below_alloc (Below.refl _ wr) (.cells #[.int .i64 (x : Int), .int .i64 (y : Int), .bool z] 34)))
      have HNX := Lib.hid (inn_next (stop := st) (out0 := plan xs st) hx)
      have HPI := Lib.hid (HIN.out j (by rw [HL.out]; omega))
      clear hx hd hok HM2
      generalize inn xs st (plan xs st) j = out at *
      by_cases hxs : x = st
      rotate_left
      · have d0 : ((x : Int) == (st : Int)) = false := by simp; omega
        have d1 : ((x : Int) != (st : Int)) = true := by simp; omega
        have HE := Lib.hid (show inn xs st (plan xs st) (j + 1) = out by rw [HNX.out, if_neg (by dsimp only; omega)])
        clear hxs
        go_wp2_with fail
        go_roundw
        case rel => exact ⟨j + 1, by omega, by go_num, by rw [HE.out]; exact HMX.out⟩
        case measure => simp [intOf]; omega
      subst hxs
      have HE := Lib.hid (show inn xs x (plan xs x) (j + 1) = out.set j (pick xs out ⟨x, y, z⟩) by rw [HNX.out, if_pos rfl])
      obtain ⟨hi, hplt, hfr, hlow, htk⟩ := plan_pick HOK.out HPI.out HX.out rfl
      have HI := Lib.hid hi
      have HFR := Lib.hid hfr
      have HLO := Lib.hid hlow
      have HPI1 := Lib.hid HPI.out.1
      have d0 : ((x : Int) == (x : Int)) = true := by simp
      have d1 : ((x : Int) != (x : Int)) = false := by simp
      have HC := Lib.hid (fun W => seatsOf_any x y z W)
      have HSB := Lib.hid (fun (s : Nat) => (occ_blk xs out ⟨x, y, z⟩ s HW.out (HW.out _ (mem_at HX.out))))
      have HTK := Lib.hid (fun (W : World) (hW : CoachAt W (g + 1) (occS xs out)) => take_any (g + 1) x y (pick xs out ⟨x, y, z⟩) z _ W hW hxy hy7 hplt)
      have HFE := Lib.hid (fun (s : Nat) (W : World) (hW : CoachAt W (g + 1) (occS xs out)) => free_any (g + 1) x y z (s : Int) _ W hW hxy hy7)
      have hcb := capOf_bd z
      obtain ⟨hc4, hc6⟩ := hcb
      have w1 : IntKind.i64.wrap ((capOf z : Int) - 1) = (capOf z : Int) - 1 := IntWalk.i64_in _ (by omega)
      dsimp only at hplt
      clear hi hfr hlow htk HNX HPI
      generalize hpk : pick xs out ⟨x, y, z⟩ = pk at *
      generalize hcz : capOf z = cz at *
      have HCZ := Lib.hid hcz
      clear hpk hcz
      go_wp2_with fail
      refine (ticketOf_any x y z _ hxy hy7).mono ?_
      rintro e w3 ⟨rfl, hb3⟩
      have HM3 := Lib.hid (HMX.out.below hb3)
      clear hb3 HMX d0 d1
      go_wp2_with fail
      obtain ⟨W3, rfl⟩ : ∃ W3, W3 = w3 := ⟨_, rfl⟩
      go_loopw [12] (fun i wr => ∃ s : Nat, s ≤ pk ∧ i = .int .i64 s ∧ MakeAt w g (g + 1) len xs out wr) (fun i _ => pk - (intOf i).toNat)
      case atStart => exact ⟨0, by omega, rfl, HM3.out⟩
      case round =>
        obtain ⟨s, hs, rfl, hmk3⟩ := hrel
        have HM4 := Lib.hid hmk3
        clear hmk3 HM3
        by_cases hsp : s < pk
        · have hs1 : (s : Int) < (cz : Int) - 1 := by omega
          have HN := Lib.hid (show ¬ ((0 ≤ (s : Int) ∧ (s : Int) < (cz : Int)) ∧ occS xs out z (s : Int).toNat &&& legs x y = 0) from fun hh => (HSB.out s).2 (HLO.out s hsp) hh.2)
          go_wp2_with fail
          refine (HC.out _).mono ?_
          rintro e w4 ⟨rfl, rfl⟩
          go_wp2_with fail
          refine (HFE.out s _ HM4.out.2.1).mono ?_
          intro e w5 hp
          obtain ⟨rfl, hb5⟩ := hp.no HN.out
          have HM5 := Lib.hid (HM4.out.below hb5)
          clear hp hb5
          go_wp2_with fail
          go_roundw
          case rel => exact ⟨s + 1, by omega, by go_num, HM5.out⟩
          case measure => simp [intOf]; omega
        have e : s = pk := by omega
        subst e
        have HP := Lib.hid (fun (W W' : World) (hW : MakeAt w g (g + 1) len xs out W) (hT : TookW W (g + 1) (takeS (occS xs out) z s (legs x y)) W') => MakeAt.put (i := j) (t := s) hW (by omega) hg0 (HPI1.out.trans HL.out) HX.out HI.out hT)
        have HY := Lib.hid (show (0 ≤ (s : Int) ∧ (s : Int) < (cz : Int)) ∧ occS xs out z (s : Int).toNat &&& legs x y = 0 from ⟨⟨by omega, by omega⟩, Decidable.not_not.1 (fun hne => by
          have := (HSB.out s).1 hne
          rw [HFR.out] at this
          cases this)⟩)
        have i0 : (0 : Int) ≤ (j : Int) := by omega
        have i1 : (j : Int) < (len : Int) := by omega
        by_cases hs1 : (s : Int) < (cz : Int) - 1
        case' pos =>
          go_wp2_with fail
          refine (HC.out _).mono ?_
          rintro e w4 ⟨rfl, rfl⟩
          go_wp2_with fail
          refine (HFE.out s _ HM4.out.2.1).mono ?_
          intro e w5 hp
          obtain ⟨rfl, hb5⟩ := hp.yes HY.out
          have HM5 := Lib.hid (HM4.out.below hb5)
          clear hp hb5 hs1
        case' neg =>
          have d2 : decide ((s : Int) < (cz : Int) - 1) = false := by simpa using hs1
          clear hs1
          go_wp2_with fail
          refine (HC.out _).mono ?_
          rintro e w5 ⟨rfl, rfl⟩
          have HM5 := HM4
        all_goals
          clear HM4
          go_wp2_with fail
          refine (HTK.out _ HM5.out.2.1).mono ?_
          rintro e w6 ⟨rfl, htook⟩
          have HM6 := Lib.hid (HP.out _ _ HM5.out htook)
          have hfz : w6.frozen? ⟨g, j, none⟩ = false := by have := HM6.out.frozen j; rwa [World.frozen?_setCell] at this
          have hcl : ∃ u, w6.cell? ⟨g, j, none⟩ = some u := by
            have h1 := htook.2.block g (by have := HM5.out.2.1.1; omega) (by intro h; injection h with h; omega)
            have h2 := HM5.out.cell HI.out
            exact ⟨_, by unfold World.cell? at h2 ⊢; rw [h1]; exact h2⟩
          obtain ⟨u, hcl⟩ := hcl
          clear htook
          go_wp2_with fail
          go_roundw
          case rel => exact ⟨j + 1, by omega, by go_num, by rw [HE.out]; exact HM6.out⟩
          case measure => simp [intOf]; omega
end Go.Proofs.YtgjllminidlolaaGreatDoor
/- Contracts: l4Least and SeatingMake of the reference. -/
set_option linter.unusedVariables false
namespace Go.Proofs.YtgjllminidlolaaGreatDoor
open Go.RowKit

set_option maxRecDepth 20000 in
set_option maxHeartbeats 6400000 in
theorem l4Least_any (A B : Option Addr) (len cap cap2 i pk : Nat) (xs : List B3) (out : List Int) (p : B3) (w : World) (h : SlE 3 encB w A len xs) (h2 : SlE 1 encI w B len out) (hn : len ≤ 16) (hx : xs[i]? = some p)
    (hfr : blk xs out p pk = false) (hlow : ∀ t : Nat, t < pk → blk xs out p t = true) (hpk : pk ≤ 6) :
    Calls Tryz.prog 49 #[.slice A len cap, .slice B len cap2, .int .i64 i] w (Only (.int .i64 pk) w) := by
  have H := Lib.hid h
  have H2 := Lib.hid h2
  have HX := Lib.hid hx
  have HFR := Lib.hid hfr
  have HLO := Lib.hid hlow
  have hil : i < len := by rw [← h.len]; exact (List.getElem?_eq_some_iff.1 hx).1
  clear h h2 hx hfr hlow
  obtain ⟨x, y, z⟩ := p
  have i0 : (0 : Int) ≤ (i : Int) := by omega
  have i1 : (i : Int) < (len : Int) := by omega
  obtain ⟨b, off, x0, y0, z0, rfl, hbl, hx0, hd0, -, -, -⟩ := atB H.out (Below.refl _ w) hil
  obtain ⟨b2, off2, o0, rfl, hbl2, ho0, hd2, -⟩ := at1 H2.out (Below.refl _ w) hil
  clear hx0 hd0 ho0 hd2
  go_enter Tryz.func49, Tryz.ntmps49
  go_wp2_with fail
  go_loopw [7, 8] (fun q i wr => ∃ s k : Nat, s ≤ pk ∧ k ≤ len ∧ q = .int .i64 s ∧ i = .int .i64 k ∧ (∀ (m : Nat) r, m < k → xs[m]? = some r → out[m]? = some (s : Int) → ¬ meetB ⟨x, y, z⟩ r) ∧ Below w.heap.size w wr) (fun q i _ => (pk - (intOf q).toNat) * 17 + (len - (intOf i).toNat))
  case atStart => exact ⟨0, 0, by omega, by omega, rfl, rfl, fun m r hm => absurd hm (by omega), Below.refl _ _⟩
  case round =>
    obtain ⟨s, k, hs, hk, rfl, rfl, hno, hb⟩ := hrel
    have HNO := Lib.hid hno
    have HR := Lib.hid hb
    clear hno hb
    by_cases hkl : k < len
    rotate_left
    · have hsp : s = pk := by
        by_cases e : s < pk
        · obtain ⟨m, r, m1, m2, m3⟩ := (blk_iff _ _ _ _).1 (HLO.out s e)
          exact absurd m3 (HNO.out m r (by have := (List.getElem?_eq_some_iff.1 m1).1; rw [H.out.len] at this; omega) m1 m2)
        · omega
      subst hsp
      go_wp2_with fail
      go_ret
      exact ⟨rfl, HR.out⟩
    have j0 : (0 : Int) ≤ (k : Int) := by omega
    have j1 : (k : Int) < (len : Int) := by omega
    obtain ⟨g0, g1, g2⟩ := cellB_of H.out HR.out HX.out
    obtain ⟨⟨x', y', z'⟩, hx'⟩ : ∃ q, xs[k]? = some q := ⟨_, List.getElem?_eq_getElem (by rw [H.out.len]; exact hkl)⟩
    obtain ⟨o, ho⟩ : ∃ q, out[k]? = some q := ⟨_, List.getElem?_eq_getElem (by rw [H2.out.len]; exact hkl)⟩
    obtain ⟨q0, q1, q2⟩ := cellB_of H.out HR.out hx'
    have m0 := cell1_of H2.out HR.out ho
    have HX' := Lib.hid hx'
    have HO' := Lib.hid ho
    clear hx' ho
    by_cases hoo : o = (s : Int)
    rotate_left
    · have d0 : (o == (s : Int)) = false := by simpa using hoo
      have HNX : Hid (∀ (m : Nat) r, m < k + 1 → xs[m]? = some r → out[m]? = some (s : Int) → ¬ meetB ⟨x, y, z⟩ r) := fun m r hm h1 h2 => by
        by_cases e : m = k
        · subst e
          rw [HO'.out] at h2
          injection h2 with h2
          exact absurd h2 hoo
        · exact HNO.out m r (by omega) h1 h2
      clear hoo
      go_wp2_with fail
      go_quiet (fail)
      go_wp2_with fail
      go_roundw
      case rel => exact ⟨s, k + 1, by omega, by omega, rfl, by go_num, HNX.out, bl_drewN HR.out _⟩
      case measure => simp [intOf]; omega
    subst hoo
    have HQd := Lib.hid HR.out.drew
    have HKEEP := Lib.hid (fun (W : World) (hW : Below w.heap.size w W) => show W.cell? ⟨b2, off2 + k, none⟩ = some (.int .i64 (s : Int)) ∧ W.cell? ⟨b, off + i * 3, none⟩ = some (.int .i64 x) ∧ W.cell? ⟨b, off + i * 3 + 1, none⟩ = some (.int .i64 y) ∧ W.cell? ⟨b, off + i * 3 + 2, none⟩ = some (.bool z) ∧ W.cell? ⟨b, off + k * 3, none⟩ = some (.int .i64 x') ∧ W.cell? ⟨b, off + k * 3 + 1, none⟩ = some (.int .i64 y') ∧ W.cell? ⟨b, off + k * 3 + 2, none⟩ = some (.bool z') from by
      obtain ⟨u0, u1, u2⟩ := cellB_of H.out hW HX.out
      obtain ⟨v0, v1, v2⟩ := cellB_of H.out hW HX'.out
      exact ⟨cell1_of H2.out hW HO'.out, u0, u1, u2, v0, v1, v2⟩)
    by_cases hm : meetB ⟨x, y, z⟩ ⟨x', y', z'⟩
    · have HM := Lib.hid hm
      have hsp : s < pk := by
        by_cases e : s = pk
        · subst e
          have := (blk_iff xs out ⟨x, y, z⟩ s).2 ⟨k, _, HX'.out, HO'.out, hm⟩
          rw [HFR.out] at this
          cases this
        · omega
      clear hm
      go_wp2_with fail
      go_region_held3 (fun w' => w'.cell? ⟨b2, off2 + k, none⟩ = some (.int .i64 (s : Int)) ∧ w'.cell? ⟨b, off + i * 3, none⟩ = some (.int .i64 x) ∧ w'.cell? ⟨b, off + i * 3 + 1, none⟩ = some (.int .i64 y) ∧ w'.cell? ⟨b, off + i * 3 + 2, none⟩ = some (.bool z) ∧ w'.cell? ⟨b, off + k * 3, none⟩ = some (.int .i64 x') ∧ w'.cell? ⟨b, off + k * 3 + 1, none⟩ = some (.int .i64 y') ∧ w'.cell? ⟨b, off + k * 3 + 2, none⟩ = some (.bool z')) (first | exact ⟨m0, g0, g1, g2, q0, q1, q2⟩ | exact HKEEP.out _ HB4.out | go_keep)
        (first | (go_at_call 86; (with_reducible_and_instances refine (l4Meet_any ⟨x, y, z⟩ ⟨x', y', z'⟩ _).mono ?_); intro e w4 hp; obtain ⟨rfl, hb4⟩ := hp.yes HM.out; have HB4 := Lib.hid (below_trans HQd.out hb4); clear hp hb4) | fail)
      go_wp2_with fail
      go_roundw
      case rel => exact ⟨s + 1, 0, by omega, by omega, by go_num, rfl, fun m r hm => absurd hm (by omega), HB4.out⟩
      case measure => simp [intOf]; omega
    · have HM : Hid (¬ meetB ⟨x, y, z⟩ ⟨x', y', z'⟩) := hm
      have HNX : Hid (∀ (m : Nat) r, m < k + 1 → xs[m]? = some r → out[m]? = some (s : Int) → ¬ meetB ⟨x, y, z⟩ r) := fun m r hmk h1 h2 => by
        by_cases e : m = k
        · subst e
          rw [HX'.out] at h1
          injection h1 with h1
          subst h1
          exact hm
        · exact HNO.out m r (by omega) h1 h2
      clear hm
      go_wp2_with fail
      go_region_held3 (fun w' => w'.cell? ⟨b2, off2 + k, none⟩ = some (.int .i64 (s : Int)) ∧ w'.cell? ⟨b, off + i * 3, none⟩ = some (.int .i64 x) ∧ w'.cell? ⟨b, off + i * 3 + 1, none⟩ = some (.int .i64 y) ∧ w'.cell? ⟨b, off + i * 3 + 2, none⟩ = some (.bool z) ∧ w'.cell? ⟨b, off + k * 3, none⟩ = some (.int .i64 x') ∧ w'.cell? ⟨b, off + k * 3 + 1, none⟩ = some (.int .i64 y') ∧ w'.cell? ⟨b, off + k * 3 + 2, none⟩ = some (.bool z')) (first | exact ⟨m0, g0, g1, g2, q0, q1, q2⟩ | exact HKEEP.out _ HB4.out | go_keep)
        (first | (go_at_call 86; (with_reducible_and_instances refine (l4Meet_any ⟨x, y, z⟩ ⟨x', y', z'⟩ _).mono ?_); intro e w4 hp; obtain ⟨rfl, hb4⟩ := hp.no HM.out; have HB4 := Lib.hid (below_trans HQd.out hb4); clear hp hb4) | fail)
      go_wp2_with fail
      go_roundw
      case rel => exact ⟨s, k + 1, by omega, by omega, rfl, by go_num, HNX.out, HB4.out⟩
      case measure => simp [intOf]; omega

set_option maxRecDepth 20000 in
set_option maxHeartbeats 800000 in
theorem specSeatingMake_no (A : Option Addr) (n : Int) (len cap : Nat) (xs : List B3) (w : World) (h : SlE 3 encB w A len xs) (hn : len ≤ 16777216) (hok : ¬ BookOk n xs) :
    Calls Tryz.prog 17 #[.int .i64 n, .slice A len cap] w (RetOwnB 1 encI 3 [] false w) := by
  have H := Lib.hid h
  have HN := Lib.hid hok
  clear h hok
  go_enter Tryz.func17, Tryz.ntmps17
  go_wp2_with fail
  refine (specBookingsValid_any A n len cap xs w H.out hn).mono ?_
  intro e w2 hp
  obtain ⟨rfl, hb⟩ := hp.no HN.out
  have HB := Lib.hid hb
  have hz := hb.size
  clear hp hb
  go_wp2_with fail
  go_ret2
  exact ⟨_, rfl, own_new w2 3 w.heap.size hz encI_len [] #[] rfl (by simp) rfl, below_alloc HB.out _⟩
set_option maxRecDepth 20000 in
set_option maxHeartbeats 6400000 in
theorem specSeatingMake_yes (A : Option Addr) (n len cap : Nat) (xs : List B3) (w : World) (h : SlE 3 encB w A len xs) (hok : BookOk n xs) :
    Calls Tryz.prog 17 #[.int .i64 n, .slice A len cap] w (RetOwnB 1 encI 3 (plan xs n) true w) := by
  have H := Lib.hid h
  have HL := Lib.hid h.len
  have HOK := Lib.hid hok
  have hn1 := hok.1
  have hn7 := hok.2.1
  have hm : len ≤ 16 := by have := hok.2.2.1; rw [HL.out] at this; exact this
  have HW := Lib.hid (okB_w hn7 hok.2.2.2.1)
  have HPL := Lib.hid (fun s => (plan_len hok s).trans h.len)
  clear hok h
  go_enter Tryz.func17, Tryz.ntmps17
  go_wp2_with fail
  refine (specBookingsValid_any A n len cap xs w H.out (by omega)).mono ?_
  intro e w2 hp
  obtain ⟨rfl, hb⟩ := hp.yes HOK.out
  have hg0 := hb.size
  have HB := Lib.hid hb
  have HO0 := Lib.hid (own_new (enc := encI) (k := 1) w2 3 w.heap.size hg0 encI_len [] #[] rfl (by simp) rfl)
  clear hp hb
  go_wp2_with fail
  obtain ⟨W0, rfl⟩ : ∃ W0, W0 = w2 := ⟨_, rfl⟩
  go_loopw [6, 7] (fun v i wr => ∃ k : Nat, k ≤ len ∧ i = .int .i64 k ∧ OwnE 1 encI 3 w.heap.size wr v (List.replicate k (-1)) ∧ Below w.heap.size w wr) (fun _ i _ => len - (intOf i).toNat)
  case atStart => exact ⟨0, by omega, rfl, HO0.out, below_alloc HB.out _⟩
  case round =>
    obtain ⟨k, hk, rfl, hown, hb⟩ := hrel
    have HO := Lib.hid hown
    have HR := Lib.hid hb
    have hsz := hb.size
    clear hown hb HB HO0
    by_cases hkl : k < len
    · go_wp2_with (at_builtin; refine wpList_push 1 8 3 encI encI_len encI_one (by omega) (-1) _ _ rfl rfl _ _ _ rfl Tryz.underlying29 info_intN rfl w.heap.size _ (List.replicate k (-1)) rfl rfl (by simp) HO.out (by simp; omega) (by simp [maxLen]; omega) hsz ?_; intro v' w' hown' hg'; have HO' := Lib.hid hown'; have HB' := Lib.hid (below_grown HR.out hg' HO.out (Nat.le_refl _)); clear hown' hg')
      go_roundw
      case rel => exact ⟨k + 1, by omega, by go_num, by have := HO'.out; rwa [← List.replicate_succ'] at this, HB'.out⟩
      case measure => simp [intOf]; omega
    have e : k = len := by omega
    subst e
    obtain ⟨B, c2, rfl, -, hc2⟩ := HO.out.slc encI_len (n := k) (by simp)
    have HP0 : Hid (OwnE 1 encI 3 w.heap.size wr (.slice B k c2) (plan xs 0)) := by
      have := HO.out
      rw [← HL.out] at this
      rw [HL.out] at this
      rw [plan, HL.out]
      exact this
    clear HO
    go_wp2_with fail
    obtain ⟨W1, rfl⟩ : ∃ W1, W1 = wr := ⟨_, rfl⟩
    go_loopw [8, 9] (fun i _ wr => ∃ st : Nat, st ≤ n ∧ i = .int .i64 st ∧ OwnE 1 encI 3 w.heap.size wr (.slice B k c2) (plan xs st) ∧ Below w.heap.size w wr) (fun i _ _ => n - (intOf i).toNat)
    case atStart => exact ⟨0, by omega, rfl, HP0.out, HR.out⟩
    case round =>
      obtain ⟨st, hst, rfl, hown, hb⟩ := hrel
      have HM := Lib.hid hown
      have HR1 := Lib.hid hb
      clear hown hb HP0 HR
      by_cases hlt : st < n
      rotate_left
      · have e : st = n := by omega
        subst e
        go_wp2_with fail
        go_ret2
        exact ⟨_, rfl, HM.out, HR1.out⟩
      have HIN := Lib.hid (fun j hj => inn_is HOK.out (plan_is HOK.out st) j hj)
      go_wp2_with fail
      obtain ⟨W2, rfl⟩ : ∃ W2, W2 = wr := ⟨_, rfl⟩
      go_loopw [9] (fun i wr => ∃ j : Nat, j ≤ k ∧ i = .int .i64 j ∧ OwnE 1 encI 3 w.heap.size wr (.slice B k c2) (inn xs st (plan xs st) j) ∧ Below w.heap.size w wr) (fun i _ => k - (intOf i).toNat)
      case atStart => exact ⟨0, by omega, rfl, HM.out, HR1.out⟩
      case round =>
        obtain ⟨j, hj, rfl, hown, hb⟩ := hrel
        have HM2 := Lib.hid hown
        have HR2 := Lib.hid hb
        clear hown hb HM HR1
        by_cases hjl : j < k
        rotate_left
        · have e : j = k := by omega
          have HE := Lib.hid (show inn xs st (plan xs st) j = plan xs (st + 1) by rw [e, plan, HL.out])
          clear e
          go_wp2_with fail
          go_roundw
          case rel => exact ⟨st + 1, by omega, by go_num, by rw [← HE.out]; exact HM2.out, HR2.out⟩
          case measure => simp [intOf]; omega
        obtain ⟨b, off, x, y, z, rfl, hbl, hx, hd, g0, g1, g2⟩ := atB H.out HR2.out hjl
        have HX := Lib.hid hx
        have HNX := Lib.hid (inn_next (stop := st) (out0 := plan xs st) hx)
        have HPI := Lib.hid (HIN.out j (by rw [HL.out]; omega))
        have i0 : (0 : Int) ≤ (j : Int) := by omega
        have i1 : (j : Int) < (k : Int) := by omega
        clear hx hd
        generalize inn xs st (plan xs st) j = out at *
        by_cases hxs : x = st
        rotate_left
        · have d0 : (x == (st : Int)) = false := by simpa using hxs
          have HE := Lib.hid (show inn xs st (plan xs st) (j + 1) = out by rw [HNX.out, if_neg (by exact hxs)])
          clear hxs
          go_wp2_with fail
          go_roundw
          case rel => exact ⟨j + 1, by omega, by go_num, by rw [HE.out]; exact HM2.out, HR2.out⟩
          case measure => simp [intOf]; omega
        subst hxs
        have HE := Lib.hid (show inn xs st (plan xs st) (j + 1) = out.set j (pick xs out ⟨st, y, z⟩) by rw [HNX.out, if_pos rfl])
        obtain ⟨hi, hplt, hfr, hlow, htk⟩ := plan_pick HOK.out HPI.out HX.out rfl
        have HOL := Lib.hid (HPI.out.1.trans HL.out)
        have hcb := capOf_bd z
        have HLE := Lib.hid (fun (W : World) (h1 : SlE 3 encB W (some ⟨b, off, none⟩) k xs) (h2 : SlE 1 encI W B k out) => l4Least_any (some ⟨b, off, none⟩) B k cap c2 j (pick xs out ⟨st, y, z⟩) xs out ⟨st, y, z⟩ W h1 h2 hm HX.out hfr hlow (by dsimp only at hplt; omega))
        have d0 : ((st : Int) == (st : Int)) = true := by simp
        clear hfr hlow htk HNX HPI hi hcb
        generalize hpk : pick xs out ⟨st, y, z⟩ = pk at *
        clear hpk hplt
        obtain ⟨g, rfl, -, hg1, hg2, hfz⟩ := HM2.out.form (by rw [HOL.out]; omega)
        go_wp2_with fail
        refine (HLE.out _ (H.out.below HR2.out) (sl_of_own_at encI_len HM2.out HOL.out)).mono ?_
        rintro e w6 ⟨rfl, hb6⟩
        have HR6 := Lib.hid (below_trans HR2.out hb6)
        have hown6 := HM2.out.below hb6 (Nat.le_refl _)
        have HO6 := Lib.hid (own1_set hown6 HOL.out j (pk : Int))
        obtain ⟨o, ho⟩ : ∃ o, out[j]? = some o := ⟨_, List.getElem?_eq_getElem (by rw [HOL.out]; exact hjl)⟩
        have hcl := OwnE.cell1 hown6 ho
        have hf6 := OwnE.frozen hown6 j
        clear hb6 hown6 ho hfz d0
        go_wp2_with fail
        go_roundw
        case rel => exact ⟨j + 1, by omega, by go_num, by rw [HE.out]; exact HO6.out.1, below_own HR6.out HO6.out.2 hg1⟩
        case measure => simp [intOf]; omega
end Go.Proofs.YtgjllminidlolaaGreatDoor
/- Contracts: the draws of bookings. -/
set_option linter.unusedVariables false
namespace Go.Proofs.YtgjllminidlolaaGreatDoor
open Go.RowKit

theorem below_rd {w w1 w' : World} (hb : Below w.heap.size w w1) (hg : w1.grownBy w' (some w.heap.size)) : Below w.heap.size w w' :=
  hb.grown hg hb.size (fun j hj => by injection hj with hj; omega)
theorem DGB.mono {w W : World} {R m m' : Nat} {v : Value} {xs : List B3} (h : DGB w R m v xs W) (hm : m ≤ m') : DGB w R m' v xs W := ⟨h.1, h.2.1.mono hm, h.2.2⟩
/-- A number of legs and bookings have been drawn. -/
def DrewK (w : World) (e : Ending) (w' : World) : Prop :=
  ∃ n v xs, e = .returned (.tuple #[.int .i64 n, v]) ∧ 0 ≤ n ∧ n ≤ 8 ∧ xs.length ≤ 12 ∧ OwnE 3 encB 34 w.heap.size w' v xs ∧ Below w.heap.size w w'
set_option maxRecDepth 20000 in
set_option maxHeartbeats 1600000 in
theorem drawSeatingMake_any (A : Option Addr) (n c : Nat) (bs : List Int) (w : World) (h : SlE 1 encU w A n bs) (hb : Bytes bs) (hn : n ≤ 1048576) (hc : n ≤ c) :
    Calls Tryz.prog 15 #[.slice A n c] w (DrewK w) := by
  have H := Lib.hid h
  have HB := Lib.hid hb
  clear h hb
  go_enter Tryz.func15, Tryz.ntmps15
  go_wp2_with fail
  refine (l6Open_any A n c bs w H.out HB.out hn hc).mono ?_
  rintro e w1 ⟨rfl, hr, hb1, hs1⟩
  have HR := Lib.hid hr
  have HB1 := Lib.hid hb1
  clear hr hb1 H HB
  go_wp2_with fail
  refine (l92Bookings_any w.heap.size 0 w1 HR.out (by omega)).mono ?_
  rintro e w2 ⟨k, v, xs, rfl, k0, k1, hl, hd⟩
  have D2 := Lib.hid hd
  clear hd HR
  go_wp2_with fail
  go_ret2
  exact ⟨k, v, xs, rfl, by omega, by omega, hl, D2.out.2.2.2.base_le (by omega), below_rd HB1.out D2.out.2.2.1⟩
def len_of : Value → Nat
  | .slice _ n _ => n
  | _ => 0
end Go.Proofs.YtgjllminidlolaaGreatDoor
/- Contracts: roads of the reference: whether they are roads, where a road lies. -/
set_option linter.unusedVariables false
namespace Go.Proofs.YtgjllminidlolaaGreatDoor
open Go.RowKit

set_option maxRecDepth 20000 in
set_option maxHeartbeats 3200000 in
theorem specRoadsValid_any (A : Option Addr) (n : Int) (len cap : Nat) (xs : List T3) (w : World) (h : SlE 3 enc3 w A len xs) (hn : len ≤ 16777216) (h1 : -1000000 ≤ n) (h2 : n ≤ 1000000) :
    Calls Tryz.prog 93 #[.int .i64 n, .slice A len cap] w (OnlyB (RoadOk n xs) w) := by
  have H := Lib.hid h
  have hxl := h.len
  have HL := Lib.hid hxl
  clear h hxl
  by_cases hr : 1 ≤ n ∧ n ≤ 8
  rotate_left
  · go_enter Tryz.func93, Tryz.ntmps93
    go_wp2_with (go_at_call 62; refine (l6In_any _ _ _ _).mono ?_; intro e w2 hp; obtain ⟨rfl, rfl⟩ := hp.no hr)
    go_ret
    exact onlyB_false (fun hB => hr ⟨hB.1, hB.2.1⟩) (Below.refl _ _)
  obtain ⟨hr1, hr2⟩ := hr
  by_cases hm : len ≤ 16
  rotate_left
  · have hm' : 16 < (len : Int) := by omega
    go_enter Tryz.func93, Tryz.ntmps93
    go_wp2_with (go_at_call 62; refine (l6In_any _ _ _ _).mono ?_; intro e w2 hp; obtain ⟨rfl, rfl⟩ := hp.yes ⟨hr1, hr2⟩)
    go_ret
    exact onlyB_false (fun hB => hm (by have := hB.2.2.1; rw [HL.out] at this; exact this)) (Below.refl _ _)
  have hm' : (len : Int) ≤ 16 := by omega
  go_enter Tryz.func93, Tryz.ntmps93
  go_wp2_with (go_at_call 62; refine (l6In_any _ _ _ _).mono ?_; intro e w2 hp; obtain ⟨rfl, rfl⟩ := hp.yes ⟨hr1, hr2⟩)
  go_loopw [5, 6, 7] (fun i _ _ wr => ∃ j : Nat, j ≤ len ∧ i = .int .i64 j ∧ RoadPre n (xs.take j) ∧ Below w.heap.size w wr) (fun i _ _ _ => len - (intOf i).toNat)
  case atStart => exact ⟨0, by omega, rfl, pre_nil n xs, Below.refl _ _⟩
  case round =>
    obtain ⟨j, hj, rfl, hpre, hbr⟩ := hrel
    have HR := Lib.hid hbr
    have HP := Lib.hid hpre
    clear hbr hpre
    by_cases hlt : j < len
    rotate_left
    · have hx : xs.take j = xs := List.take_of_length_le (by have := HL.out; omega)
      rw [hx] at HP
      clear hx
      go_wp2
      go_ret
      exact onlyB_true ⟨hr1, hr2, by rw [HL.out]; exact hm, HP.out⟩ HR.out
    obtain ⟨b, off, x, y, z, rfl, hbl, hx, hd, g0, g1, g2⟩ := at3 H.out HR.out hlt
    have HX := Lib.hid hx
    have HBX := Lib.hid (below_alloc HR.out (.cells #[.int .i64 x, .int .i64 y, .int .i64 z] 43))
    clear hd hx
    by_cases hok : OkR n ⟨x, y, z⟩
    rotate_left
    · have HK := Lib.hid hok
      clear hok
      have hxb := HL.out
      by_cases k1 : 0 ≤ x ∧ x ≤ n - 1
      rotate_left
      · go_wp2_with (go_at_call 62; refine (l6In_any _ _ _ _).mono ?_; intro e w2 hp; obtain ⟨rfl, rfl⟩ := hp.no k1)
        go_ret
        exact onlyB_false (road_bad HX.out HK.out) HBX.out
      by_cases k2 : x + 1 ≤ y ∧ y ≤ n - 1
      rotate_left
      · go_wp2_with fail
        refine (l6In_any _ _ _ _).mono ?_
        intro e w2 hp
        obtain ⟨rfl, rfl⟩ := hp.yes k1
        clear hp
        go_wp2_with fail
        refine (l6In_any _ _ _ _).mono ?_
        intro e w2 hp
        obtain ⟨rfl, rfl⟩ := hp.no k2
        clear hp
        go_wp2_with fail
        go_ret
        exact onlyB_false (road_bad HX.out HK.out) HBX.out
      have k3 : ¬ (1 ≤ z ∧ z ≤ 99) := fun h => HK.out (by unfold OkR; dsimp only; omega)
      go_wp2_with fail
      refine (l6In_any _ _ _ _).mono ?_
      intro e w2 hp
      obtain ⟨rfl, rfl⟩ := hp.yes k1
      clear hp
      go_wp2_with fail
      refine (l6In_any _ _ _ _).mono ?_
      intro e w2 hp
      obtain ⟨rfl, rfl⟩ := hp.yes k2
      clear hp
      go_wp2_with fail
      refine (l6In_any _ _ _ _).mono ?_
      intro e w2 hp
      obtain ⟨rfl, rfl⟩ := hp.no k3
      clear hp
      go_wp2_with fail
      go_ret
      exact onlyB_false (road_bad HX.out HK.out) HBX.out
    have HK := Lib.hid hok
    unfold OkR at hok
    dsimp only at hok
    have k1 : 0 ≤ x ∧ x ≤ n - 1 := by omega
    have k2 : x + 1 ≤ y ∧ y ≤ n - 1 := by omega
    have k3 : 1 ≤ z ∧ z ≤ 99 := by omega
    clear hok
    go_wp2_with fail
    refine (l6In_any _ _ _ _).mono ?_
    intro e w2 hp
    obtain ⟨rfl, rfl⟩ := hp.yes k1
    clear hp
    go_wp2_with fail
    refine (l6In_any _ _ _ _).mono ?_
    intro e w2 hp
    obtain ⟨rfl, rfl⟩ := hp.yes k2
    clear hp
    go_wp2_with fail
    refine (l6In_any _ _ _ _).mono ?_
    intro e w2 hp
    obtain ⟨rfl, rfl⟩ := hp.yes k3
    clear hp
    have hc : ∀ W, Below (wr.alloc (.cells #[.int .i64 x, .int .i64 y, .int .i64 z] 43)).heap.size (wr.alloc (.cells #[.int .i64 x, .int .i64 y, .int .i64 z] 43)) W → W.cell? ⟨wr.heap.size, 0, none⟩ = some (.int .i64 x) ∧ W.cell? ⟨wr.heap.size, 1, none⟩ = some (.int .i64 y) := by
      intro W hW
      have hr : ∀ j, W.cell? ⟨wr.heap.size, j, none⟩ = (#[.int .i64 x, .int .i64 y, .int .i64 z] : Array Value)[j]? := fun j => by
        rw [hW.cell (p := ⟨wr.heap.size, j, none⟩) (by simp)]
        exact cell_of_row _ _ j _ 43 (0, 0) (heap_alloc_new wr _)
      exact ⟨hr 0, hr 1⟩
    have HC := Lib.hid hc
    clear hc
    obtain ⟨w0, rfl⟩ : ∃ w0, w0 = wr := ⟨_, rfl⟩
    go_wp2_with fail
    go_loopw [7] (fun i wr => ∃ k : Nat, k ≤ j ∧ i = .int .i64 k ∧ NoTwin xs k x y ∧ Below (w0.alloc (.cells #[.int .i64 x, .int .i64 y, .int .i64 z] 43)).heap.size (w0.alloc (.cells #[.int .i64 x, .int .i64 y, .int .i64 z] 43)) wr) (fun i _ => j - (intOf i).toNat)
    case atStart => exact ⟨0, by omega, rfl, twin_nil _ _ _, Below.refl _ _⟩
    case round =>
      obtain ⟨k, hk, rfl, htw, hbr⟩ := hrel
      have HT := Lib.hid htw
      have HR2 := Lib.hid hbr
      have HB2 := Lib.hid (below_trans HBX.out hbr)
      clear htw hbr
      by_cases hkj : k < j
      · have hkl : k < len := by omega
        obtain ⟨b', off', u, v, t, he, hbl', hx', hd', f0, f1, f2⟩ := at3 H.out HB2.out hkl
        simp only [Option.some.injEq, Addr.mk.injEq, and_true] at he
        obtain ⟨rfl, rfl⟩ := he
        have HX' := Lib.hid hx'
        obtain ⟨q0, q1⟩ := HC.out _ HR2.out
        clear hd' hx' g0 g1 g2
        by_cases e1 : u = x
        · have d1 : (u == x) = true := by simpa using e1
          by_cases e2 : v = y
          · have d2 : (v == y) = true := by simpa using e2
            have HD := Lib.hid (road_dup (n := n) hkj HX'.out HX.out ⟨e1, e2⟩)
            clear e1 e2
            go_wp2_with fail
            go_quiet (fail)
            go_wp2_with fail
            go_ret
            exact onlyB_false HD.out (bl_drewN HB2.out _)
          · have d2 : (v == y) = false := by simpa using e2
            have HTW := Lib.hid (twin_next HT.out HX'.out (fun h => e2 h.2))
            clear e1 e2
            go_wp2_with fail
            go_quiet (fail)
            go_wp2_with fail
            go_roundw
            case rel => exact ⟨k + 1, by omega, by go_num, HTW.out, bl_drewN HR2.out _⟩
            case measure => simp [intOf]; omega
        · have d1 : (u == x) = false := by simpa using e1
          have HTW := Lib.hid (twin_next HT.out HX'.out (fun h => e1 h.1))
          clear e1
          go_wp2_with fail
          go_quiet (fail)
          go_wp2_with fail
          go_roundw
          case rel => exact ⟨k + 1, by omega, by go_num, HTW.out, bl_drewN HR2.out _⟩
          case measure => simp [intOf]; omega
      · obtain rfl : k = j := by omega
        go_wp2_with fail
        go_roundw
        case rel => exact ⟨k + 1, by omega, by go_num, pre_next HP.out HX.out HK.out HT.out, HB2.out⟩
        case measure => simp [intOf]; omega
end Go.Proofs.YtgjllminidlolaaGreatDoor
