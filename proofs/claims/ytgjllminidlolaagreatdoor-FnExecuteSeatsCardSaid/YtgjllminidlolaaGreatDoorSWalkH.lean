/- Contracts: SeatingMake of the program. -/
import Derived.Test.YtgjllminidlolaaGreatDoorSWalkG
import Derived.Test.YtgjllminidlolaaGreatDoorIntN
set_option linter.unusedVariables false
namespace Go.Proofs.YtgjllminidlolaaGreatDoor
open Go.RowKit

def zmax (o : Int) : Int := max o 0
theorem zmax_of {o : Int} (h : 0 ≤ o) : zmax o = o := by unfold zmax; omega
/-- A seating under way: the seats of the program (0 where none is given yet), and the coach. -/
def MakeAt (w : World) (g h len : Nat) (xs : List B3) (out : List Int) (W : World) : Prop :=
  OwnE 1 encI 3 w.heap.size W (.slice (some ⟨g, 0, none⟩) len len) (out.map zmax) ∧ CoachAt W h (occS xs out) ∧ Below w.heap.size w W
theorem MakeAt.below {w W W' : World} {g h len : Nat} {xs : List B3} {out : List Int} (m : MakeAt w g h len xs out W) (hb : Below W.heap.size W W') : MakeAt w g h len xs out W' :=
  ⟨m.1.below hb (Nat.le_refl _), m.2.1.below hb, below_trans m.2.2 hb⟩
theorem CoachAt.grown {w w' : World} {g : Nat} {S : Bool → Nat → Nat} {row : Option Nat} (h : CoachAt w g S) (hg : w.grownBy w' row) (hne : row ≠ some g) : CoachAt w' g S := by
  have e := hg.block g h.1 (fun e => hne e.symm)
  have hc : ∀ o, w'.cell? ⟨g, o, none⟩ = w.cell? ⟨g, o, none⟩ := fun o => by unfold World.cell?; rw [e]
  have hf : ∀ o, w'.frozen? ⟨g, o, none⟩ = w.frozen? ⟨g, o, none⟩ := fun o => by unfold World.frozen?; rw [e]
  exact ⟨Nat.lt_of_lt_of_le h.1 hg.size, fun j => (hf j).trans (h.2.1 j), fun k s hs => ⟨(hc _).trans (h.2.2 k s hs).1, (h.2.2 k s hs).2⟩⟩
theorem occS_set {xs : List B3} {out : List Int} {i : Nat} {p : B3} {t : Nat} (hx : xs[i]? = some p) (ho : out[i]? = some (-1)) : takeS (occS xs out) p.c t (legs p.a.toNat p.b.toNat) = occS xs (out.set i t) := by
  funext k s
  simp only [takeS, occS, occ_set xs out i p t k s hx ho (by omega)]
  by_cases e : k = p.c ∧ s = t
  · obtain ⟨rfl, rfl⟩ := e
    rw [if_pos ⟨rfl, rfl⟩, if_pos ⟨rfl, rfl⟩]
  · rw [if_neg e, if_neg (fun h => e ⟨h.1.symm, by omega⟩), Nat.or_zero]
/-- A seat is taken and written down. -/
theorem MakeAt.put {w W W' : World} {g h len i t : Nat} {xs : List B3} {out : List Int} {p : B3} (m : MakeAt w g h len xs out W) (hgh : g < h) (hw : w.heap.size ≤ g) (hl : out.length = len) (hx : xs[i]? = some p) (ho : out[i]? = some (-1))
    (ht : TookW W h (takeS (occS xs out) p.c t (legs p.a.toNat p.b.toNat)) W') : MakeAt w g h len xs (out.set i t) (W'.setCell ⟨g, i, none⟩ (.int .i64 t)) := by
  rw [occS_set hx ho] at ht
  have h1 : OwnE 1 encI 3 w.heap.size W' (.slice (some ⟨g, 0, none⟩) len len) (out.map zmax) := OwnE.apart m.1 ht.2 (.inr fun e => by injection e with e; have e : g = h := e; omega)
  have h2 := own1_set h1 (by rw [List.length_map]; exact hl) i (t : Int)
  refine ⟨?_, ht.1.grown h2.2 (fun e => by injection e with e; omega), ?_⟩
  · have e : (out.set i (t : Int)).map zmax = (out.map zmax).set i (t : Int) := by rw [List.map_set, zmax_of (by omega)]
    rw [e]
    exact h2.1
  · have hb : Below w.heap.size w W' := below_own m.2.2 ht.2 (by omega)
    exact below_own hb h2.2 hw
theorem MakeAt.frozen {w W : World} {g h len : Nat} {xs : List B3} {out : List Int} (m : MakeAt w g h len xs out W) (j : Nat) : W.frozen? ⟨g, j, none⟩ = false := OwnE.frozen m.1 j
theorem MakeAt.cell {w W : World} {g h len : Nat} {xs : List B3} {out : List Int} (m : MakeAt w g h len xs out W) {i : Nat} {o : Int} (ho : out[i]? = some o) : W.cell? ⟨g, i, none⟩ = some (.int .i64 (zmax o)) :=
  OwnE.cell1 m.1 (by rw [List.getElem?_map, ho]; rfl)
theorem MakeAt.end_ {w W : World} {g h len : Nat} {xs : List B3} {out : List Int} (m : MakeAt w g h len xs out W) (ho : ∀ o ∈ out, 0 ≤ o) : RetOwnB 1 encI 3 out true w (.returned (.tuple #[.slice (some ⟨g, 0, none⟩) len len, .bool true])) W := by
  have e : out.map zmax = out := by
    conv => rhs; rw [← List.map_id out]
    exact List.map_congr_left fun o h => zmax_of (ho o h)
  have h1 := m.1
  rw [e] at h1
  exact ⟨_, rfl, h1, m.2.2⟩
theorem plan_nonneg {n : Nat} {xs : List B3} (hB : BookOk n xs) : ∀ o ∈ plan xs n, 0 ≤ o := fun o ho => by
  obtain ⟨k, hk⟩ := List.getElem?_of_mem ho
  have hl := (plan_all hB).1.1
  have hkl := (List.getElem?_eq_some_iff.1 hk).1
  exact ((plan_all hB).1.2.1 k _ o (List.getElem?_eq_getElem (by omega)) hk).1
theorem map_rep (n : Nat) : (List.replicate n (-1 : Int)).map zmax = List.replicate n 0 := by rw [List.map_replicate]; rfl
theorem occS_rep (xs : List B3) (m : Nat) : occS xs (List.replicate m (-1)) = occS [] [] := by
  funext k s
  simp only [occS]
  rw [occ_none _ _ _ _ (by omega)]
  rfl

set_option maxRecDepth 20000 in
set_option maxHeartbeats 800000 in
theorem implSeatingMake_no (A : Option Addr) (n : Int) (len cap : Nat) (xs : List B3) (w : World) (h : SlE 3 encB w A len xs) (hn : len ≤ 16777216) (hok : ¬ BookOk n xs) :
    Calls Tryz.prog 16 #[.int .i64 n, .slice A len cap] w (RetOwnB 1 encI 3 [] false w) := by
  have H := Lib.hid h
  have HN := Lib.hid hok
  clear h hok
  go_enter Tryz.func16, Tryz.ntmps16
  go_wp2_with fail
  refine (implBookingsValid_any A n len cap xs w H.out hn).mono ?_
  intro e w2 hp
  obtain ⟨rfl, hb⟩ := hp.no HN.out
  have HB := Lib.hid hb
  have hz := hb.size
  clear hp hb
  go_wp2_with fail
  go_ret2
  exact ⟨_, rfl, own_new w2 3 w.heap.size hz encI_len [] #[] rfl (by simp) rfl, below_alloc HB.out _⟩
set_option maxRecDepth 20000 in
set_option maxHeartbeats 6400000 in
theorem implSeatingMake_yes (A : Option Addr) (n len cap : Nat) (xs : List B3) (w : World) (h : SlE 3 encB w A len xs) (hok : BookOk n xs) :
    Calls Tryz.prog 16 #[.int .i64 n, .slice A len cap] w (RetOwnB 1 encI 3 (plan xs n) true w) := by
  have H := Lib.hid h
  have HL := Lib.hid h.len
  have HOK := Lib.hid hok
  have hn1 := hok.1
  have hn7 := hok.2.1
  have hm : len ≤ 16 := by have := hok.2.2.1; rw [HL.out] at this; exact this
  have HW := Lib.hid (okB_w hn7 hok.2.2.2.1)
  have HPL := Lib.hid (fun s => (plan_len hok s).trans h.len)
  have HNN := Lib.hid (plan_nonneg hok)
  clear hok h
  have hmk := fun W => run_make_rowN (P := Tryz.prog) 29 3 (.int .i64 0) 1 8 Tryz.underlying29 info_intN .i64 .i64 len (by omega) (by omega) W
  go_enter Tryz.func16, Tryz.ntmps16
  go_wp2_with fail
  refine (implBookingsValid_any A n len cap xs w H.out (by omega)).mono ?_
  intro e w2 hp
  obtain ⟨rfl, hb⟩ := hp.yes HOK.out
  have hg0 := hb.size
  have HM0 : Hid (MakeAt w w2.heap.size (w2.heap.size + 1) len xs (plan xs 0) ((w2.alloc (.cells (madeCells #[.int .i64 0] len) 3)).alloc (.cells #[.int .u64 0, .int .u64 0, .int .u64 0, .int .u64 0, .int .u64 0, .int .u64 0, .int .u64 0, .int .u64 0, .int .u64 0, .int .u64 0] 78))) := by
    have h1 := own_new (enc := encI) (k := 1) w2 3 w.heap.size hg0 encI_len (List.replicate len (0 : Int)) (madeCells #[.int .i64 0] len) (made1 len) (by simp [maxLen]; omega) rfl
    rw [List.length_replicate] at h1
    refine ⟨?_, ?_, below_alloc (below_alloc hb _) _⟩
    · rw [plan, map_rep, HL.out]
      exact OwnE.alloc h1 _
    · rw [plan, occS_rep]
      have := coach_zero (w2.alloc (.cells (madeCells #[.int .i64 0] len) 3)) 78
      simpa using this
  clear hp hb
  go_wp2_with fail
  obtain ⟨W0, rfl⟩ : ∃ W0, W0 = w2 := ⟨_, rfl⟩
  generalize hg : W0.heap.size = g at *
  have HG := Lib.hid hg
  clear hg
  go_loopw [24] (fun i wr => ∃ st : Nat, st ≤ n ∧ i = .int .i64 st ∧ MakeAt w g (g + 1) len xs (plan xs st) wr) (fun i _ => n - (intOf i).toNat)
  case atStart => exact ⟨0, by omega, rfl, HM0.out⟩
  case round =>
    obtain ⟨st, hst, rfl, hmk1⟩ := hrel
    have HM := Lib.hid hmk1
    clear hmk1 HM0
    by_cases hlt : st < n
    rotate_left
    · have e : st = n := by omega
      subst e
      go_wp2_with fail
      go_ret2
      exact HM.out.end_ HNN.out
    have HIN := Lib.hid (fun j hj => inn_is HOK.out (plan_is HOK.out st) j hj)
    go_wp2_with fail
    go_loopw [29] (fun i wr => ∃ j : Nat, j ≤ len ∧ i = .int .i64 j ∧ MakeAt w g (g + 1) len xs (inn xs st (plan xs st) j) wr) (fun i _ => len - (intOf i).toNat)
    case atStart => exact ⟨0, by omega, rfl, HM.out⟩
    case round =>
      obtain ⟨j, hj, rfl, hmk2⟩ := hrel
      have HM2 := Lib.hid hmk2
      clear hmk2 HM
      by_cases hjl : j < len
      rotate_left
      · have e : j = len := by omega
        have HE := Lib.hid (show inn xs st (plan xs st) j = plan xs (st + 1) by rw [e, plan, HL.out])
        clear e
        go_wp2_with fail
        go_roundw
        case rel => exact ⟨st + 1, by omega, by go_num, by rw [← HE.out]; exact HM2.out⟩
        case measure => simp [intOf]; omega
      obtain ⟨b, off, x, y, z, rfl, hbl, hx, hd, g0, g1, g2⟩ := atB H.out HM2.out.2.2 hjl
      have hok := HW.out _ (mem_at hx)
      unfold OkB at hok
      dsimp only at hok
      obtain ⟨x, rfl⟩ : ∃ i : Nat, x = i := ⟨x.toNat, by omega⟩
      obtain ⟨y, rfl⟩ : ∃ i : Nat, y = i := ⟨y.toNat, by omega⟩
      have hxy : x ≤ y := by omega
      have hy7 : y ≤ 7 := by omega
      have HX := Lib.hid hx
      have HMX := Lib.hid (HM2.out.below (below_alloc (Below.refl _ wr) (.cells #[.int .i64 (x : Int), .int .i64 (y : Int), .bool z] 34)))
      have HNX := Lib.hid (inn_next (stop := st) (out0 := plan xs st) hx)
      have HPI := Lib.hid (HIN.out j (by rw [HL.out]; omega))
      clear hx hd hok HM2
      generalize inn xs st (plan xs st) j = out at *
      by_cases hxs : x = st
      rotate_left
      · have d0 : ((x : Int) == (st : Int)) = false := by simp; omega
        have d1 : ((x : Int) != (st : Int)) = true := by simp; omega
        have HE := Lib.hid (show inn xs st (plan xs st) (j + 1) = out by rw [HNX.out, if_neg (by dsimp only; omega)])
        clear hxs
        go_wp2_with fail
        go_roundw
        case rel => exact ⟨j + 1, by omega, by go_num, by rw [HE.out]; exact HMX.out⟩
        case measure => simp [intOf]; omega
      subst hxs
      have HE := Lib.hid (show inn xs x (plan xs x) (j + 1) = out.set j (pick xs out ⟨x, y, z⟩) by rw [HNX.out, if_pos rfl])
      obtain ⟨hi, hplt, hfr, hlow, htk⟩ := plan_pick HOK.out HPI.out HX.out rfl
      have HI := Lib.hid hi
      have HFR := Lib.hid hfr
      have HLO := Lib.hid hlow
      have HPI1 := Lib.hid HPI.out.1
      have d0 : ((x : Int) == (x : Int)) = true := by simp
      have d1 : ((x : Int) != (x : Int)) = false := by simp
      have HC := Lib.hid (fun W => seatsOf_any x y z W)
      have HSB := Lib.hid (fun (s : Nat) => (occ_blk xs out ⟨x, y, z⟩ s HW.out (HW.out _ (mem_at HX.out))))
      have HTK := Lib.hid (fun (W : World) (hW : CoachAt W (g + 1) (occS xs out)) => take_any (g + 1) x y (pick xs out ⟨x, y, z⟩) z _ W hW hxy hy7 hplt)
      have HFE := Lib.hid (fun (s : Nat) (W : World) (hW : CoachAt W (g + 1) (occS xs out)) => free_any (g + 1) x y z (s : Int) _ W hW hxy hy7)
      have hcb := capOf_bd z
      obtain ⟨hc4, hc6⟩ := hcb
      have w1 : IntKind.i64.wrap ((capOf z : Int) - 1) = (capOf z : Int) - 1 := IntWalk.i64_in _ (by omega)
      dsimp only at hplt
      clear hi hfr hlow htk HNX HPI
      generalize hpk : pick xs out ⟨x, y, z⟩ = pk at *
      generalize hcz : capOf z = cz at *
      have HCZ := Lib.hid hcz
      clear hpk hcz
      go_wp2_with fail
      refine (ticketOf_any x y z _ hxy hy7).mono ?_
      rintro e w3 ⟨rfl, hb3⟩
      have HM3 := Lib.hid (HMX.out.below hb3)
      clear hb3 HMX d0 d1
      go_wp2_with fail
      obtain ⟨W3, rfl⟩ : ∃ W3, W3 = w3 := ⟨_, rfl⟩
      go_loopw [12] (fun i wr => ∃ s : Nat, s ≤ pk ∧ i = .int .i64 s ∧ MakeAt w g (g + 1) len xs out wr) (fun i _ => pk - (intOf i).toNat)
      case atStart => exact ⟨0, by omega, rfl, HM3.out⟩
      case round =>
        obtain ⟨s, hs, rfl, hmk3⟩ := hrel
        have HM4 := Lib.hid hmk3
        clear hmk3 HM3
        by_cases hsp : s < pk
        · have hs1 : (s : Int) < (cz : Int) - 1 := by omega
          have HN := Lib.hid (show ¬ ((0 ≤ (s : Int) ∧ (s : Int) < (cz : Int)) ∧ occS xs out z (s : Int).toNat &&& legs x y = 0) from fun hh => (HSB.out s).2 (HLO.out s hsp) hh.2)
          go_wp2_with fail
          refine (HC.out _).mono ?_
          rintro e w4 ⟨rfl, rfl⟩
          go_wp2_with fail
          refine (HFE.out s _ HM4.out.2.1).mono ?_
          intro e w5 hp
          obtain ⟨rfl, hb5⟩ := hp.no HN.out
          have HM5 := Lib.hid (HM4.out.below hb5)
          clear hp hb5
          go_wp2_with fail
          go_roundw
          case rel => exact ⟨s + 1, by omega, by go_num, HM5.out⟩
          case measure => simp [intOf]; omega
        have e : s = pk := by omega
        subst e
        have HP := Lib.hid (fun (W W' : World) (hW : MakeAt w g (g + 1) len xs out W) (hT : TookW W (g + 1) (takeS (occS xs out) z s (legs x y)) W') => MakeAt.put (i := j) (t := s) hW (by omega) hg0 (HPI1.out.trans HL.out) HX.out HI.out hT)
        have HY := Lib.hid (show (0 ≤ (s : Int) ∧ (s : Int) < (cz : Int)) ∧ occS xs out z (s : Int).toNat &&& legs x y = 0 from ⟨⟨by omega, by omega⟩, Decidable.not_not.1 (fun hne => by
          have := (HSB.out s).1 hne
          rw [HFR.out] at this
          cases this)⟩)
        have i0 : (0 : Int) ≤ (j : Int) := by omega
        have i1 : (j : Int) < (len : Int) := by omega
        by_cases hs1 : (s : Int) < (cz : Int) - 1
        case' pos =>
          go_wp2_with fail
          refine (HC.out _).mono ?_
          rintro e w4 ⟨rfl, rfl⟩
          go_wp2_with fail
          refine (HFE.out s _ HM4.out.2.1).mono ?_
          intro e w5 hp
          obtain ⟨rfl, hb5⟩ := hp.yes HY.out
          have HM5 := Lib.hid (HM4.out.below hb5)
          clear hp hb5 hs1
        case' neg =>
          have d2 : decide ((s : Int) < (cz : Int) - 1) = false := by simpa using hs1
          clear hs1
          go_wp2_with fail
          refine (HC.out _).mono ?_
          rintro e w5 ⟨rfl, rfl⟩
          have HM5 := HM4
        all_goals
          clear HM4
          go_wp2_with fail
          refine (HTK.out _ HM5.out.2.1).mono ?_
          rintro e w6 ⟨rfl, htook⟩
          have HM6 := Lib.hid (HP.out _ _ HM5.out htook)
          have hfz : w6.frozen? ⟨g, j, none⟩ = false := by have := HM6.out.frozen j; rwa [World.frozen?_setCell] at this
          have hcl : ∃ u, w6.cell? ⟨g, j, none⟩ = some u := by
            have h1 := htook.2.block g (by have := HM5.out.2.1.1; omega) (by intro h; injection h with h; omega)
            have h2 := HM5.out.cell HI.out
            exact ⟨_, by unfold World.cell? at h2 ⊢; rw [h1]; exact h2⟩
          obtain ⟨u, hcl⟩ := hcl
          clear htook
          go_wp2_with fail
          go_roundw
          case rel => exact ⟨j + 1, by omega, by go_num, by rw [HE.out]; exact HM6.out⟩
          case measure => simp [intOf]; omega
end Go.Proofs.YtgjllminidlolaaGreatDoor
