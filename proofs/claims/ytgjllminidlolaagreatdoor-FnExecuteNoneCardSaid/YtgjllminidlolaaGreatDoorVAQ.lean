/- Texts of mine in one: PWalkE PWalkC PWalkI. -/
import Derived.Test.YtgjllminidlolaaGreatDoorVAP
import Derived.Test.YtgjllminidlolaaGreatDoorVAK
import Derived.Test.YtgjllminidlolaaGreatDoorVAB
import Derived.Laws.CopyOwn
import Derived.Deep.RegionHeld3
import Derived.Test.YtgjllminidlolaaGreatDoorVAC
/- Contracts: rides and spread: all that a letter in a town can reach. -/
set_option linter.unusedVariables false
namespace Go.Proofs.YtgjllminidlolaaGreatDoor
open Go.RowKit

/-- Timetables in memory, to be read. -/
def NetS (W : World) (A : Option Addr) (m : Nat) (net : List (List T3)) : Prop :=
  ∃ vs : List Value, SlE 1 encV W A m vs ∧ vs.length = net.length ∧ ∀ (j : Nat) u xs, vs[j]? = some u → net[j]? = some xs → ∃ A' n' c', u = .slice A' n' c' ∧ SlE 3 enc3 W A' n' xs ∧ n' ≤ c'
theorem NetS.len {W : World} {A : Option Addr} {m : Nat} {net : List (List T3)} (h : NetS W A m net) : net.length = m := by
  obtain ⟨vs, h1, h2, _⟩ := h
  rw [← h2]
  exact h1.len
theorem NetS.below {W W' : World} {A : Option Addr} {m : Nat} {net : List (List T3)} (h : NetS W A m net) (hb : Below W.heap.size W W') : NetS W' A m net := by
  obtain ⟨vs, h1, h2, h3⟩ := h
  refine ⟨vs, h1.below hb, h2, fun j u xs hu hx => ?_⟩
  obtain ⟨A', n', c', rfl, h4, h5⟩ := h3 j u xs hu hx
  exact ⟨A', n', c', rfl, h4.below hb, h5⟩
theorem NetS.drew {W : World} {A : Option Addr} {m : Nat} {net : List (List T3)} (h : NetS W A m net) : NetS W.drew A m net := h.below (below_drew (Below.refl _ _))
theorem NetS.at_ {W W' : World} {A : Option Addr} {m : Nat} {net : List (List T3)} (h : NetS W A m net) (hb : Below W.heap.size W W') {j : Nat} (hj : j < m) :
    ∃ b off A' n' c' xs, A = some ⟨b, off, none⟩ ∧ b < W'.heap.size ∧ W'.cell? ⟨b, off + j, none⟩ = some (.slice A' n' c') ∧ net[j]? = some xs ∧ SlE 3 enc3 W A' n' xs ∧ n' ≤ c' := by
  have hl := h.len
  obtain ⟨vs, h1, h2, h3⟩ := h
  obtain ⟨b, off, u, hA, hlt, hu, _, hc⟩ := (h1.below hb).at_ hj
  have hx : net[j]? = some (net[j]'(by omega)) := List.getElem?_eq_getElem (by omega)
  obtain ⟨A', n', c', rfl, h4, h5⟩ := h3 j u _ hu hx
  exact ⟨b, off, A', n', c', _, hA, hlt, by have := hc 0 _ rfl; simpa using this, hx, h4, h5⟩
theorem below_T {W0 W W' : World} {T : Nat} (hb : Below W0.heap.size W0 W) (hg : W.grownBy W' (some T)) (hT : W0.heap.size ≤ T) : Below W0.heap.size W0 W' :=
  hb.grown hg hb.size (fun j hj => by injection hj with hj; omega)
theorem grown_in {a b c : World} {r : Option Nat} (h : Below a.heap.size a b) (k : b.grownBy c r) : a.grownBy c r := grown_trans ⟨h.os, h.tape, h.output, h.size, fun j hj _ => h.block j hj⟩ k

/-- What stays as it is while a letter's ways are sought. -/
structure PEnv (W0 : World) (P T : Nat) (A : Option Addr) (m cN : Nat) (net : List (List T3)) (s0 t0 ch : Int) (n c : Nat) : Prop where
  ok : PostOk n net s0 t0 ch
  net : NetS W0 A m net
  base : W0.heap.size ≤ T
  cap : n ≤ c
/-- How spread and rides end. -/
def Spread (P T : Nat) (N : Value) (net : List (List T3)) (s0 t0 ch : Int) (n c : Nat) (f : Int → Int) (u : Int) (W : World) (e : Ending) (W' : World) : Prop :=
  e = .returned (.tuple #[]) ∧ ∃ f', PtAt P T N s0 ch n c f' W' ∧ W.grownBy W' (some T) ∧ Spr net s0 t0 ch n f u f'
/-- How the function that spread hands on ends. -/
def Stepped (P T : Nat) (N : Value) (net : List (List T3)) (s0 t0 ch : Int) (n c : Nat) (f : Int → Int) (x y : Int) (W : World) (e : Ending) (W' : World) : Prop :=
  e = .returned (.tuple #[]) ∧ ∃ f', PtAt P T N s0 ch n c f' W' ∧ W.grownBy W' (some T) ∧ ((f' = f ∧ 0 ≤ f x ∧ f x ≤ y) ∨ ((f x < 0 ∨ y < f x) ∧ Spr net s0 t0 ch n (updI f x y) x f'))
/-- What that function does, up to a measure. -/
def StepGo (W0 : World) (P T g : Nat) (N : Value) (net : List (List T3)) (s0 t0 ch : Int) (n c M : Nat) : Prop :=
  ∀ (W : World) (f : Int → Int) (x : Nat) (y z : Int), Below W0.heap.size W0 W → PtAt P T N s0 ch n c f W → SndP net s0 t0 ch f → muP n f ≤ M → x < n → 0 ≤ y → y ≤ 10000 → Come net s0 t0 ch x y → W.cell? ⟨g, 0, none⟩ = some (.pointer (some ⟨P, 0, none⟩)) →
    Calls Tryz.prog 128 #[.agg #[.int .i64 x, .int .i64 y, .int .i64 z], .pointer (some ⟨g, 0, none⟩)] W (Stepped P T N net s0 t0 ch n c f x y W)
/-- What spread does, up to a measure. -/
def SpreadGo (W0 : World) (P T : Nat) (N : Value) (net : List (List T3)) (s0 t0 ch : Int) (n c M : Nat) : Prop :=
  ∀ (W : World) (f : Int → Int) (u : Nat), Below W0.heap.size W0 W → PtAt P T N s0 ch n c f W → SndP net s0 t0 ch f → muP n f ≤ M → u < n →
    Calls Tryz.prog 96 #[.pointer (some ⟨P, 0, none⟩), .int .i64 u] W (Spread P T N net s0 t0 ch n c f u W)

set_option maxRecDepth 20000 in
set_option maxHeartbeats 1600000 in
theorem step_go {W0 : World} {P T g : Nat} {A : Option Addr} {m cN : Nat} {net : List (List T3)} {s0 t0 ch : Int} {n c M : Nat} (E : PEnv W0 P T A m cN net s0 t0 ch n c) (hgT : g ≠ T)
    (ih : ∀ M', M' < M → SpreadGo W0 P T (.slice A m cN) net s0 t0 ch n c M') : StepGo W0 P T g (.slice A m cN) net s0 t0 ch n c M := by
  intro W f x y z hb pt hs hm hx y0 y1 hcm hg
  have hTL := pt.tl
  have HB := Lib.hid hb
  have HS := Lib.hid hs
  have HM := Lib.hid hm
  have HC := Lib.hid hcm
  have IH := Lib.hid ih
  have BX := Lib.hid (below_alloc (Below.refl W.heap.size W) (.cells #[.int .i64 (x : Int), .int .i64 y, .int .i64 z] 103))
  have PX := Lib.hid (pt.below BX.out)
  have hgl := World.block_lt_of_cell? W _ hg
  simp only at hgl
  have hHG : ∀ W', Below W.heap.size W W' → W'.cell? ⟨g, 0, none⟩ = some (.pointer (some ⟨P, 0, none⟩)) := fun W' hW => cell_below' hW hg
  have HRE := Lib.hid (fun W' h => reach_any (P := P) (T := T) (N := .slice A m cN) (s0 := s0) (ch := ch) (f := f) x y W' h hx E.cap)
  clear hb hs hm hcm ih pt hHG
  have hc0 : ∀ j, (W.alloc (.cells #[.int .i64 (x : Int), .int .i64 y, .int .i64 z] 103)).cell? ⟨W.heap.size, j, none⟩ = (#[.int .i64 (x : Int), .int .i64 y, .int .i64 z] : Array Value)[j]? := fun j => cell_of_row _ _ j _ 103 (0, 0) (heap_alloc_new W _)
  have HCX := Lib.hid (hc0 0)
  have hgx : (W.alloc (.cells #[.int .i64 (x : Int), .int .i64 y, .int .i64 z] 103)).cell? ⟨g, 0, none⟩ = some (.pointer (some ⟨P, 0, none⟩)) := by rw [World.cell?_alloc_lt _ _ _ hgl]; exact hg
  have HGX := Lib.hid hgx
  have hzx : (W.alloc (.cells #[.int .i64 (x : Int), .int .i64 y, .int .i64 z] 103)).heap.size = W.heap.size + 1 := by simp
  have HZX := Lib.hid hzx
  have HTL := Lib.hid hTL
  clear hc0 hgx hzx hTL
  go_enter Tryz.func128, Tryz.ntmps128
  go_wp2_with fail
  refine (HRE.out _ PX.out).mono ?_
  rintro e w2 (⟨rfl, hr, rfl⟩ | ⟨rfl, hr, pt2, hg2⟩)
  · have HR := Lib.hid hr
    clear hr
    go_wp2_with fail
    (try simp only [Exit.inBlock, Exit.then])
    refine bodyPost_ret (results_none rfl _ _ _) rfl ?_
    exact ⟨rfl, f, PX.out, grown_in BX.out ⟨rfl, rfl, rfl, Nat.le_refl _, fun _ _ _ => rfl⟩, .inl ⟨rfl, HR.out⟩⟩
  · have HR := Lib.hid hr
    have P2 := Lib.hid pt2
    have HG2 := Lib.hid (grown_in BX.out hg2)
    have HB2 := Lib.hid (below_T (HB.out.trans (BX.out.mono HB.out.size)) hg2 E.base)
    have q0 : w2.cell? ⟨W.heap.size, 0, none⟩ = some (.int .i64 (x : Int)) := by
      rw [grown_cell hg2 (by rw [HZX.out]; omega) (fun e => by injection e with e; have := HTL.out; omega)]
      exact HCX.out
    have q1 : w2.cell? ⟨g, 0, none⟩ = some (.pointer (some ⟨P, 0, none⟩)) := by
      rw [grown_cell hg2 (by rw [HZX.out]; omega) (fun e => by injection e with e; exact hgT e.symm)]
      exact HGX.out
    have hmu : Hid (muP n (updI f x y) < muP n f) := Lib.hid (muP_put (by omega) y0 y1 (by have := HR.out; omega) n (by omega))
    have HSP := Lib.hid (IH.out (muP n (updI f x y)) (Nat.lt_of_lt_of_le hmu.out HM.out) w2 (updI f x y) x HB2.out P2.out (snd_put HS.out y0 HC.out) (Nat.le_refl _) hx)
    clear hr pt2 hg2 hmu IH
    go_wp2_with fail
    refine HSP.out.mono ?_
    rintro e w3 ⟨rfl, f', pt3, hg3, hsp⟩
    have HE := Lib.hid (And.intro pt3 (And.intro (grown_trans HG2.out hg3) hsp))
    clear pt3 hg3 hsp HSP
    go_wp2_with fail
    (try simp only [Exit.inBlock, Exit.then])
    refine bodyPost_ret (results_none rfl _ _ _) rfl ?_
    exact ⟨rfl, f', HE.out.1, HE.out.2.1, .inr ⟨HR.out, HE.out.2.2⟩⟩
set_option maxRecDepth 20000 in
set_option maxHeartbeats 6400000 in
theorem rides_go {W0 : World} {P T g : Nat} {A : Option Addr} {m cN : Nat} {net : List (List T3)} {s0 t0 ch : Int} {n c M : Nat} (E : PEnv W0 P T A m cN net s0 t0 ch n c) (hgT : g ≠ T)
    (hstep : StepGo W0 P T g (.slice A m cN) net s0 t0 ch n c M) (W : World) (f : Int → Int) (u : Nat) (hb : Below W0.heap.size W0 W) (pt : PtAt P T (.slice A m cN) s0 ch n c f W) (hs : SndP net s0 t0 ch f) (hm : muP n f ≤ M) (hu : u < n)
    (hg : W.cell? ⟨g, 0, none⟩ = some (.pointer (some ⟨P, 0, none⟩))) :
    Calls Tryz.prog 127 #[.pointer (some ⟨P, 0, none⟩), .int .i64 u, .func (.func 128) #[] #[.pointer (some ⟨g, 0, none⟩)]] W (Spread P T (.slice A m cN) net s0 t0 ch n c f u W) := by
  have hTL := pt.tl
  have HTL := Lib.hid hTL
  have HB := Lib.hid hb
  have HM := Lib.hid hm
  have HST := Lib.hid hstep
  have BX := Lib.hid (below_alloc (Below.refl W.heap.size W) (.cells #[.int .i64 (u : Int)] 3))
  have PX := Lib.hid (pt.below BX.out)
  have hgl := World.block_lt_of_cell? W _ hg
  simp only at hgl
  have HGL := Lib.hid hgl
  have HUX := Lib.hid (show (W.alloc (.cells #[.int .i64 (u : Int)] 3)).cell? ⟨W.heap.size, 0, none⟩ = some (.int .i64 (u : Int)) by simp)
  have HGX := Lib.hid (show (W.alloc (.cells #[.int .i64 (u : Int)] 3)).cell? ⟨g, 0, none⟩ = some (.pointer (some ⟨P, 0, none⟩)) by rw [World.cell?_alloc_lt _ _ _ hgl]; exact hg)
  have HZX := Lib.hid (show (W.alloc (.cells #[.int .i64 (u : Int)] 3)).heap.size = W.heap.size + 1 by simp)
  have HIS := Lib.hid (inP_start hs (u : Int) (n := n))
  have HBX0 := Lib.hid (hb.trans (BX.out.mono hb.size))
  have HML := Lib.hid E.net.len
  have hm6 : m ≤ 6 := by have := E.ok.net.2.2.1; rw [E.net.len] at this; exact this
  have hpn := PX.out.net
  clear hb hm hs pt hstep hg hTL hgl
  generalize hW1 : W.alloc (.cells #[.int .i64 (u : Int)] 3) = W1 at *
  have HW1 := Lib.hid hW1
  go_enter Tryz.func127, Tryz.ntmps127
  go_wp2_with fail
  clear hpn
  go_loopw [16] (fun i wr => ∃ (j : Nat) (f' : Int → Int), j ≤ m ∧ i = .int .i64 j ∧ PtAt P T (.slice A m cN) s0 ch n c f' wr ∧ W1.grownBy wr (some T) ∧ InP net s0 t0 ch n f u j f') (fun i _ => m - (intOf i).toNat)
  case atStart => exact ⟨0, f, by omega, rfl, PX.out, World.grownBy.refl _ _, HIS.out⟩
  case round =>
    obtain ⟨j, f', hj, rfl, pt1, hg1, hin⟩ := hrel
    have P1 := Lib.hid pt1
    have G1 := Lib.hid hg1
    have I1 := Lib.hid hin
    have HBR := Lib.hid (below_T HBX0.out hg1 E.base)
    clear pt1 hg1 hin
    by_cases hjm : j < m
    rotate_left
    · obtain rfl : j = m := by omega
      have HE := Lib.hid (show Spr net s0 t0 ch n f u f' from inP_end (by rw [HML.out]; exact I1.out))
      go_wp2_with fail
      (try simp only [Exit.inBlock, Exit.then])
      refine bodyPost_ret (results_none rfl _ _ _) rfl ?_
      exact ⟨rfl, f', P1.out, grown_in BX.out G1.out, HE.out⟩
    obtain ⟨b, off, A', n', c', xs, rfl, hbl, hcell, hx, hsl, hnc⟩ := E.net.at_ HBR.out hjm
    have HX := Lib.hid hx
    have HSL0 := Lib.hid hsl
    have HSL := Lib.hid (hsl.below HBR.out)
    have hok := E.ok.net.2.2.2 xs (List.mem_of_getElem? hx)
    have hn8 : n' ≤ 8 := by have := hok.2.2.2.1; rw [hsl.len] at this; exact this
    have HOK := Lib.hid hok
    have HUW := Lib.hid (show wr.cell? ⟨W.heap.size, 0, none⟩ = some (.int .i64 (u : Int)) by rw [grown_cell G1.out (by rw [HZX.out]; omega) (fun e => by injection e with e; have := HTL.out; omega)]; exact HUX.out)
    have HGW := Lib.hid (show wr.cell? ⟨g, 0, none⟩ = some (.pointer (some ⟨P, 0, none⟩)) by rw [grown_cell G1.out (by rw [HZX.out]; have := HGL.out; omega) (fun e => by injection e with e; exact hgT e.symm)]; exact HGX.out)
    clear hx hsl hok
    go_wp2_with fail
    refine (indexRide_any (fun q => q.a = (u : Int)) (.pointer (some ⟨W.heap.size, 0, none⟩)) A' n' c' xs wr HSL.out (by omega) (fun W' hW' i x y z _ => rideTest_any x y z u W.heap.size W' (cell_below' hW' HUW.out))).mono ?_
    rintro e w2 ⟨v, rfl, hv, hb2⟩
    have HV := Lib.hid hv
    have P2 := Lib.hid (P1.out.below hb2)
    have G2 := Lib.hid (grown_below G1.out hb2)
    have HB2 := Lib.hid (HBR.out.trans (hb2.mono HBR.out.size))
    have HSL2 := Lib.hid (HSL.out.below hb2)
    have HGW2 := Lib.hid (cell_below' hb2 HGW.out)
    clear hv hb2
    rcases HV.out with ⟨rfl, hno⟩ | ⟨k, ⟨pa, pb, pc⟩, rfl, hp, hpu, hfirst⟩
    · have HN := Lib.hid (inP_next I1.out HX.out (fun i k p q _ hp _ hpu _ => absurd hpu (hno i p hp)))
      clear hno
      go_wp2_with fail
      go_roundw
      case rel => exact ⟨j + 1, f', by omega, by go_num, P2.out, G2.out, HN.out⟩
      case measure => simp [intOf]; omega
    dsimp only at hpu
    subst hpu
    have hkn : k < n' := by
      have := (List.getElem?_eq_some_iff.1 hp).1
      rw [HSL.out.len] at this
      exact this
    have hkz : ¬ (k : Int) < 0 := by omega
    have hkn2 : (k : Int) < (n' : Int) := by omega
    obtain ⟨b', off', x0, y0, z0, rfl, hbl', hp', -, q0, q1, q2⟩ := at3 HSL2.out (Below.refl _ _) hkn
    obtain ⟨rfl, rfl, rfl⟩ : x0 = (u : Int) ∧ y0 = pb ∧ z0 = pc := by
      rw [hp] at hp'
      injection hp' with hp'
      injection hp' with h1 h2 h3
      exact ⟨h1.symm, h2.symm, h3.symm⟩
    have HP := Lib.hid hp
    have HUQ : Hid (∀ (i : Nat) (p : T3), xs[i]? = some p → p.a = (u : Int) → i = k) := Lib.hid (fun i p hi hpa => by
      rcases Nat.lt_trichotomy i k with h | h | h
      · exact absurd (show p.a = (⟨(u : Int), y0, z0⟩ : T3).a from hpa) (stop_lt E.ok.net (List.mem_of_getElem? HX.out) hi HP.out h).2
      · exact h
      · exact absurd hpa.symm (stop_lt E.ok.net (List.mem_of_getElem? HX.out) HP.out hi h).2)
    have hsb := snd_bd E.ok I1.out.snd (u : Int)
    have HCT := Lib.hid (canTake_any u y0 z0 w2 P2.out hu E.cap ⟨hsb.1, hsb.2.1⟩ E.ok.ch)
    clear hp hp' hfirst hsb
    by_cases hrd : Rdy f' s0 ch ⟨(u : Int), y0, z0⟩
    rotate_left
    · have HN := Lib.hid (inP_next I1.out HX.out (fun i k' p q _ hi _ hpa hr => by
        obtain rfl := HUQ.out i p hi hpa
        rw [HP.out] at hi
        injection hi with hi
        subst hi
        exact absurd hr hrd))
      have HRD := Lib.hid hrd
      clear hrd
      go_wp2_with fail
      refine HCT.out.mono ?_
      intro e w3 hp
      obtain ⟨rfl, hb3⟩ := hp.no HRD.out
      have P3 := Lib.hid (P2.out.below hb3)
      have G3 := Lib.hid (grown_below G2.out hb3)
      clear hp hb3
      go_wp2_with fail
      go_roundw
      case rel => exact ⟨j + 1, f', by omega, by go_num, P3.out, G3.out, HN.out⟩
      case measure => simp [intOf]; omega
    have HRD := Lib.hid hrd
    clear hrd
    have k1 : (0 : Int) ≤ (k : Int) + 1 := by omega
    have k2 : (k : Int) + 1 ≤ (n' : Int) := by omega
    have k3 : (n' : Int) ≤ (c' : Int) := by omega
    have k4 : IntKind.i64.wrap ((k : Int) + 1) = (k : Int) + 1 := IntWalk.i64_in _ (by omega)
    have k5 : ((k : Int) + 1).toNat = k + 1 := by omega
    go_wp2_with fail
    refine HCT.out.mono ?_
    intro e w3 hp
    obtain ⟨rfl, hb3⟩ := hp.yes HRD.out
    have P3 := Lib.hid (P2.out.below hb3)
    have G3 := Lib.hid (grown_below G2.out hb3)
    have HB3 := Lib.hid (HB2.out.trans (hb3.mono HB2.out.size))
    have HGW3 := Lib.hid (cell_below' hb3 HGW2.out)
    have HSL3 := Lib.hid (HSL2.out.below hb3)
    clear hp hb3
    have k0 : (0 : Int) ≤ (k : Int) := by omega
    have HCM := Lib.hid (show ∀ (i : Nat) r, k < i → xs[i]? = some r → Come net s0 t0 ch r.a r.b from fun i r hi hr => by
      have hs1 := I1.out.snd (u : Int)
      have hrd := HRD.out
      unfold Rdy at hrd
      dsimp only at hrd
      rcases hs1 with h1 | ⟨_, h1⟩
      · omega
      · exact Come.ride (p := ⟨(u : Int), y0, z0⟩) h1 (List.mem_of_getElem? HX.out) HP.out hr hi hrd.2)
    by_cases hcap : c' = k + 1
    · have hn1 : n' = k + 1 := by omega
      subst hn1
      subst hcap
      have e0 : k + 1 - (k + 1) = 0 := by omega
      have HN := Lib.hid (inP_next I1.out HX.out (fun i k' p q hik hi hq hpa _ => by
        obtain rfl := HUQ.out i p hi hpa
        have := (List.getElem?_eq_some_iff.1 hq).1
        have := HSL3.out.len
        omega))
      go_wp2_with fail
      go_loopw [39] (fun i wr' => i = .int .i64 0 ∧ w3 = wr') (fun _ _ => 0)
      case atStart => exact ⟨rfl, rfl⟩
      case round =>
        obtain ⟨rfl, rfl⟩ := hrel
        go_wp2_with fail
        go_roundw
        case rel => exact ⟨j + 1, f', by omega, by go_num, P3.out, G3.out, HN.out⟩
        case measure => simp [intOf]; omega
    · have hcut := HSL0.out.cut (k := 3) (j := k + 1) (cap := c') hkn hnc
      rw [if_neg hcap, Option.map_some, addr_add'] at hcut
      have HCT2 := Lib.hid hcut
      have hcz : ¬ (c' : Int) = (k : Int) + 1 := by omega
      clear hcut
      obtain ⟨l, hl⟩ : ∃ l, n' - (k + 1) = l := ⟨_, rfl⟩
      rw [hl] at HCT2
      go_wp2_with fail
      obtain ⟨W3, hW3⟩ : ∃ W3, W3 = w3 := ⟨_, rfl⟩
      subst hW3
      go_loopw [39] (fun i wr' => ∃ (q : Nat) (f2 : Int → Int), q ≤ l ∧ i = .int .i64 q ∧ PtAt P T (.slice (some ⟨b, off, none⟩) m cN) s0 ch n c f2 wr' ∧ W3.grownBy wr' (some T) ∧ InP net s0 t0 ch n f u j f2 ∧ ∀ (i : Nat) r, k < i → i ≤ k + q → xs[i]? = some r → 0 ≤ f2 r.a ∧ f2 r.a ≤ r.b) (fun i _ => l - (intOf i).toNat)
      case atStart => exact ⟨0, f', by omega, rfl, P3.out, World.grownBy.refl _ _, I1.out, fun i r h1 h2 => by omega⟩
      case round =>
        obtain ⟨q, f2, hq, rfl, pt4, hg4, hin4, hdone⟩ := hrel
        have P4 := Lib.hid pt4
        have G4 := Lib.hid (grown_trans G3.out hg4)
        have I4 := Lib.hid hin4
        have HB4 := Lib.hid (below_T HB3.out hg4 E.base)
        have HDN := Lib.hid hdone
        have HG4 := Lib.hid hg4
        clear pt4 hg4 hin4 hdone
        by_cases hql : q < l
        · obtain ⟨b2, off2, x1, y1, z1, he, hbl2, hx1, hd1, f0, f1, f2'⟩ := at3 HCT2.out HB4.out hql
          simp only [Option.some.injEq, Addr.mk.injEq, and_true] at he
          obtain ⟨rfl, rfl⟩ := he
          rw [List.getElem?_drop] at hx1
          have HX1 := Lib.hid hx1
          have hst := stop_bd E.ok.net (List.mem_of_getElem? HX.out) hx1
          dsimp only at hst
          obtain ⟨x1, rfl⟩ : ∃ i : Nat, x1 = i := ⟨x1.toNat, by omega⟩
          have BX4 := Lib.hid (below_alloc (Below.refl wr.heap.size wr) (.cells #[.int .i64 (x1 : Int), .int .i64 y1, .int .i64 z1] 103))
          have HGW4 := Lib.hid (cell_below' BX4.out (show wr.cell? ⟨g, 0, none⟩ = some (.pointer (some ⟨P, 0, none⟩)) by rw [grown_cell HG4.out (World.block_lt_of_cell? _ _ HGW3.out) (fun e => by injection e with e; exact hgT e.symm)]; exact HGW3.out))
          have HSG := Lib.hid (HST.out _ f2 x1 y1 z1 (HB4.out.trans (BX4.out.mono HB4.out.size)) (P4.out.below BX4.out) I4.out.snd (Nat.le_trans I4.out.mu HM.out) (by omega) (by omega) (by omega) (HCM.out _ _ (by omega) hx1) HGW4.out)
          have HST4 := Lib.hid hst
          clear hx1 hd1 hst
          go_wp2_with fail
          refine HSG.out.mono ?_
          rintro e w5 ⟨rfl, f3, pt5, hg5, hc5⟩
          have P5 := Lib.hid pt5
          have G5 := Lib.hid (grown_trans HG4.out (grown_in BX4.out hg5))
          have HC5 := Lib.hid hc5
          clear pt5 hg5 hc5 HSG
          have HIN : Hid (InP net s0 t0 ch n f u j f3 ∧ Soon f3 f2 ∧ 0 ≤ f3 x1 ∧ f3 x1 ≤ y1) := by
            rcases HC5.out with ⟨rfl, h1, h2⟩ | ⟨h1, h2⟩
            · exact ⟨I4.out, Soon.refl _, h1, h2⟩
            · have h3 := HST4.out
              have h4 := inP_put (q := ⟨(x1 : Int), y1, z1⟩) I4.out (by dsimp only; omega) h1 h2 (by dsimp only; omega)
              exact ⟨h4.1, h4.2.2.2, h4.2.1, h4.2.2.1⟩
          have HDN2 : Hid (∀ (i : Nat) r, k < i → i ≤ k + (q + 1) → xs[i]? = some r → 0 ≤ f3 r.a ∧ f3 r.a ≤ r.b) := Lib.hid (fun i r h1 h2 h3 => by
            by_cases e : i = k + 1 + q
            · subst e
              have h4 := HX1.out
              rw [h3] at h4
              injection h4 with h4
              subst h4
              exact HIN.out.2.2
            · have h4 := HDN.out i r h1 (by omega) h3
              have h5 := HIN.out.2.1 r.a h4.1
              omega)
          go_wp2_with fail
          go_roundw
          case rel => exact ⟨q + 1, f3, by omega, by go_num, P5.out, G5.out, HIN.out.1, HDN2.out⟩
          case measure => simp [intOf]; omega
        · obtain rfl : q = l := by omega
          have HN := Lib.hid (inP_next I4.out HX.out (fun i k' p r hik hi hr hpa _ => by
            obtain rfl := HUQ.out i p hi hpa
            have h1 := (List.getElem?_eq_some_iff.1 hr).1
            have h2 := HSL3.out.len
            exact HDN.out k' r hik (by omega) hr))
          go_wp2_with fail
          go_roundw
          case rel => exact ⟨j + 1, f2, by omega, by go_num, P4.out, G4.out, HN.out⟩
          case measure => simp [intOf]; omega

set_option maxRecDepth 20000 in
set_option maxHeartbeats 1600000 in
theorem spread_go {W0 : World} {P T : Nat} {A : Option Addr} {m cN : Nat} {net : List (List T3)} {s0 t0 ch : Int} {n c : Nat} (E : PEnv W0 P T A m cN net s0 t0 ch n c) : ∀ M, SpreadGo W0 P T (.slice A m cN) net s0 t0 ch n c M := by
  intro M
  induction M using Nat.strongRecOn with
  | _ M ih =>
    intro W f u hb pt hs hm hu
    have hTL := pt.tl
    have BX := Lib.hid (below_alloc (Below.refl W.heap.size W) (.cells #[.pointer (some ⟨P, 0, none⟩)] 161))
    have HRG := Lib.hid (rides_go (g := W.heap.size) E (by omega) (step_go E (by omega) ih) (W.alloc (.cells #[.pointer (some ⟨P, 0, none⟩)] 161)) f u (hb.trans (BX.out.mono hb.size)) (pt.below BX.out) hs hm hu (by simp))
    clear hb pt hs hm hu hTL ih
    go_enter Tryz.func96, Tryz.ntmps96
    go_wp2_with fail
    refine HRG.out.mono ?_
    rintro e w2 ⟨rfl, f', pt2, hg2, hsp⟩
    have HE := Lib.hid (And.intro pt2 (And.intro (grown_in BX.out hg2) hsp))
    clear pt2 hg2 hsp HRG
    go_wp2_with fail
    (try simp only [Exit.inBlock, Exit.then])
    refine bodyPost_ret (results_none rfl _ _ _) rfl ?_
    exact ⟨rfl, f', HE.out.1, HE.out.2.1, HE.out.2.2⟩
end Go.Proofs.YtgjllminidlolaaGreatDoor
/- Contracts: NetValid of both; slices.Repeat; newPostTable. -/
set_option linter.unusedVariables false
namespace Go.Proofs.YtgjllminidlolaaGreatDoor
open Go.RowKit

/-- The first so many timetables are valid. -/
def NetPre (n : Int) (net : List (List T3)) (k : Nat) : Prop := ∀ (i : Nat) xs, i < k → net[i]? = some xs → StopsOk n xs
theorem netPre_next {n : Int} {net : List (List T3)} {k : Nat} {xs : List T3} (h : NetPre n net k) (hx : net[k]? = some xs) (ho : StopsOk n xs) : NetPre n net (k + 1) := fun i ys hi hy => by
  by_cases e : i = k
  · subst e
    rw [hx] at hy
    injection hy with hy
    subst hy
    exact ho
  · exact h i ys (by omega) hy
theorem net_all {n : Int} {net : List (List T3)} (h : NetPre n net net.length) (h1 : 1 ≤ n ∧ n ≤ 8) (h6 : net.length ≤ 6) : NetOk n net :=
  ⟨h1.1, h1.2, h6, fun xs hx => by
    obtain ⟨i, hi⟩ := List.getElem?_of_mem hx
    exact h i xs (List.getElem?_eq_some_iff.1 hi).1 hi⟩
theorem net_bad {n : Int} {net : List (List T3)} {k : Nat} {xs : List T3} (hx : net[k]? = some xs) (h : ¬ StopsOk n xs) : ¬ NetOk n net := fun hn => h (hn.2.2.2 xs (List.mem_of_getElem? hx))

/-- Timetables that are not too long. -/
def NetLen (net : List (List T3)) : Prop := ∀ xs ∈ net, xs.length ≤ 16777216
set_option maxRecDepth 20000 in
set_option maxHeartbeats 1600000 in
theorem implNetValid_any (A : Option Addr) (n : Int) (m cap : Nat) (net : List (List T3)) (w : World) (h : NetS w A m net) (hm : m ≤ 16777216) (hl : NetLen net) :
    Calls Tryz.prog 123 #[.int .i64 n, .slice A m cap] w (OnlyB (NetOk n net) w) := by
  have H := Lib.hid h
  have HL := Lib.hid h.len
  have HLL := Lib.hid hl
  clear h hl
  by_cases hr : (1 ≤ n ∧ n ≤ 8) ∧ m ≤ 6
  rotate_left
  · have HN := Lib.hid (show ¬ NetOk n net from fun hB => hr (by have h1 := hB.1; have h2 := hB.2.1; have h3 := hB.2.2.1; rw [HL.out] at h3; omega))
    by_cases c1 : n < 1
    · go_enter Tryz.func123, Tryz.ntmps123
      go_wp2_with fail
      go_ret
      exact onlyB_false HN.out (Below.refl _ _)
    by_cases c2 : 8 < n
    · go_enter Tryz.func123, Tryz.ntmps123
      go_wp2_with fail
      go_ret
      exact onlyB_false HN.out (Below.refl _ _)
    have c3 : 6 < (m : Int) := by omega
    go_enter Tryz.func123, Tryz.ntmps123
    go_wp2_with fail
    go_ret
    exact onlyB_false HN.out (Below.refl _ _)
  obtain ⟨⟨r1, r2⟩, r3⟩ := hr
  have c1 : ¬ n < 1 := by omega
  have c2 : ¬ 8 < n := by omega
  have c3 : ¬ 6 < (m : Int) := by omega
  go_enter Tryz.func123, Tryz.ntmps123
  go_wp2_with fail
  go_loopw [20] (fun i wr => ∃ k : Nat, k ≤ m ∧ i = .int .i64 k ∧ NetPre n net k ∧ Below w.heap.size w wr) (fun i _ => m - (intOf i).toNat)
  case atStart => exact ⟨0, by omega, rfl, fun i xs h => absurd h (by omega), Below.refl _ _⟩
  case round =>
    obtain ⟨k, hk, rfl, hpre, hbr⟩ := hrel
    have HP := Lib.hid hpre
    have HR := Lib.hid hbr
    clear hpre hbr
    by_cases hkm : k < m
    rotate_left
    · obtain rfl : k = m := by omega
      have HN := Lib.hid (net_all (n := n) (net := net) (by rw [HL.out]; exact HP.out) ⟨r1, r2⟩ (by rw [HL.out]; exact r3))
      go_wp2_with fail
      go_ret
      exact onlyB_true HN.out HR.out
    obtain ⟨b, off, A', n', c', xs, rfl, hbl, hcell, hx, hsl, hnc⟩ := H.out.at_ HR.out hkm
    have HX := Lib.hid hx
    have HSV := Lib.hid (implStopsValid_any A' n n' c' xs wr (hsl.below HR.out) (by have := HLL.out xs (List.mem_of_getElem? hx); rw [hsl.len] at this; exact this))
    clear hx hsl
    go_wp2_with fail
    refine HSV.out.mono ?_
    intro e w2 hp
    rcases hp.cases with ⟨rfl, hok, hb2⟩ | ⟨rfl, hno, hb2⟩
    · have HN := Lib.hid (netPre_next HP.out HX.out hok)
      have HB2 := Lib.hid (below_trans HR.out hb2)
      clear hok hb2 hp
      go_wp2_with fail
      go_roundw
      case rel => exact ⟨k + 1, by omega, by go_num, HN.out, HB2.out⟩
      case measure => simp [intOf]; omega
    · have HN := Lib.hid (net_bad HX.out hno)
      have HB2 := Lib.hid (below_trans HR.out hb2)
      clear hno hb2 hp
      go_wp2_with fail
      go_ret
      exact onlyB_false HN.out HB2.out

set_option maxRecDepth 20000 in
set_option maxHeartbeats 1600000 in
theorem specNetValid_any (A : Option Addr) (n : Int) (m cap : Nat) (net : List (List T3)) (w : World) (h : NetS w A m net) (hm : m ≤ 16777216) (hl : NetLen net) (h1 : -1000000 ≤ n) (h2 : n ≤ 1000000) :
    Calls Tryz.prog 130 #[.int .i64 n, .slice A m cap] w (OnlyB (NetOk n net) w) := by
  have H := Lib.hid h
  have HL := Lib.hid h.len
  have HLL := Lib.hid hl
  clear h hl
  go_enter Tryz.func130, Tryz.ntmps130
  go_wp2_with fail
  go_loopw [5] (fun i wr => ∃ k : Nat, k ≤ m ∧ i = .int .i64 k ∧ NetPre n net k ∧ Below w.heap.size w wr) (fun i _ => m - (intOf i).toNat)
  case atStart => exact ⟨0, by omega, rfl, fun i xs h => absurd h (by omega), Below.refl _ _⟩
  case round =>
    obtain ⟨k, hk, rfl, hpre, hbr⟩ := hrel
    have HP := Lib.hid hpre
    have HR := Lib.hid hbr
    clear hpre hbr
    by_cases hkm : k < m
    rotate_left
    · obtain rfl : k = m := by omega
      by_cases hn8 : 1 ≤ n ∧ n ≤ 8
      · by_cases hk6 : (k : Int) ≤ 6
        · have HN := Lib.hid (net_all (n := n) (net := net) (by rw [HL.out]; exact HP.out) hn8 (by rw [HL.out]; omega))
          go_wp2_with fail
          refine (l6In_any _ _ _ _).mono ?_
          intro e w2 hp
          obtain ⟨rfl, rfl⟩ := hp.yes hn8
          clear hp
          go_wp2_with fail
          go_ret
          exact onlyB_true HN.out HR.out
        · have HN := Lib.hid (show ¬ NetOk n net from fun hB => hk6 (by have h3 := hB.2.2.1; rw [HL.out] at h3; omega))
          have HK6 := Lib.hid hk6
          go_wp2_with fail
          refine (l6In_any _ _ _ _).mono ?_
          intro e w2 hp
          obtain ⟨rfl, rfl⟩ := hp.yes hn8
          clear hp
          go_wp2_with fail
          go_ret
          exact ⟨decide ((k : Int) ≤ 6), rfl, ⟨fun h => by have h1 := of_decide_eq_true h; have h2 := HK6.out; omega, fun h => absurd h HN.out⟩, HR.out⟩
      · have HN := Lib.hid (show ¬ NetOk n net from fun hB => hn8 ⟨hB.1, hB.2.1⟩)
        go_wp2_with fail
        refine (l6In_any _ _ _ _).mono ?_
        intro e w2 hp
        obtain ⟨rfl, rfl⟩ := hp.no hn8
        clear hp
        go_wp2_with fail
        go_ret
        exact onlyB_false HN.out HR.out
    obtain ⟨b, off, A', n', c', xs, rfl, hbl, hcell, hx, hsl, hnc⟩ := H.out.at_ HR.out hkm
    have HX := Lib.hid hx
    have HSV := Lib.hid (specStopsValid_any A' n n' c' xs wr (hsl.below HR.out) (by have := HLL.out xs (List.mem_of_getElem? hx); rw [hsl.len] at this; exact this) h1 h2)
    clear hx hsl
    go_wp2_with fail
    refine HSV.out.mono ?_
    intro e w2 hp
    rcases hp.cases with ⟨rfl, hok, hb2⟩ | ⟨rfl, hno, hb2⟩
    · have HN := Lib.hid (netPre_next HP.out HX.out hok)
      have HB2 := Lib.hid (below_trans HR.out hb2)
      clear hok hb2 hp
      go_wp2_with fail
      go_roundw
      case rel => exact ⟨k + 1, by omega, by go_num, HN.out, HB2.out⟩
      case measure => simp [intOf]; omega
    · have HN := Lib.hid (net_bad HX.out hno)
      have HB2 := Lib.hid (below_trans HR.out hb2)
      clear hno hb2 hp
      go_wp2_with fail
      go_ret
      exact onlyB_false HN.out HB2.out

/-! ### slices.Repeat of one number -/
set_option maxRecDepth 20000 in
set_option maxHeartbeats 3200000 in
theorem mul64_small (n : Nat) (w : World) (h : n ≤ 8) : Calls Tryz.prog 199 #[.int .u64 1, .int .u64 n] w (Same (.tuple #[.int .u64 0, .int .u64 n]) w) := by
  rcases (by omega : n = 0 ∨ n = 1 ∨ n = 2 ∨ n = 3 ∨ n = 4 ∨ n = 5 ∨ n = 6 ∨ n = 7 ∨ n = 8) with rfl | rfl | rfl | rfl | rfl | rfl | rfl | rfl | rfl
  all_goals
    go_enter Tryz.func199, Tryz.ntmps199
    go_wp2
    go_ret2
    exact ⟨rfl, rfl⟩
set_option maxRecDepth 20000 in
set_option maxHeartbeats 1600000 in
theorem mul_small (n : Nat) (w : World) (h : n ≤ 8) : Calls Tryz.prog 167 #[.int .u64 1, .int .u64 n] w (Same (.tuple #[.int .u64 0, .int .u64 n]) w) := by
  have HM := Lib.hid (mul64_small n w h)
  go_enter Tryz.func167, Tryz.ntmps167
  go_wp2_with fail
  refine HM.out.mono ?_
  rintro e w2 ⟨rfl, rfl⟩
  go_wp2_with fail
  go_ret2
  exact ⟨rfl, rfl⟩
/-- How Repeat ends. -/
def Repeated (n : Nat) (w : World) (e : Ending) (w' : World) : Prop :=
  e = .returned (.slice (some ⟨w.heap.size, 0, none⟩) n n) ∧ w'.heap[w.heap.size]? = some (.cells (List.replicate n (.int .i64 (-1))).toArray 3 (0, 0)) ∧ Below w.heap.size w w'
theorem splice_rep (v u : Value) (n k c : Nat) (h : k + c ≤ n) : splice (List.replicate k v ++ List.replicate (n - k) u) k (List.replicate c v) = List.replicate (k + c) v ++ List.replicate (n - (k + c)) u := by
  unfold splice
  rw [List.take_left' (by simp), List.length_replicate, List.drop_append, List.length_replicate, List.drop_of_length_le (by simp), List.nil_append, show k + c - k = c by omega, List.drop_replicate, ← List.append_assoc, List.replicate_append_replicate, show n - k - c = n - (k + c) by omega]
set_option maxRecDepth 20000 in
set_option maxHeartbeats 3200000 in
theorem repeat_any (A : Option Addr) (c n : Nat) (w : World) (h : SlE 1 encI w A 1 [-1]) (h1 : 1 ≤ n) (h8 : n ≤ 8) :
    Calls Tryz.prog 126 #[.slice A 1 c, .int .i64 n] w (Repeated n w) := by
  obtain ⟨b, off, p, rfl, hbl, hp, -, g0⟩ := at1 h (Below.refl _ _) (show 0 < 1 by omega)
  simp only [List.getElem?_cons_zero, Option.some.injEq] at hp
  subst hp
  rw [Nat.add_zero] at g0
  have HG0 := Lib.hid g0
  have HM := Lib.hid (mul_small n w h8)
  have i0 : ¬ (n : Int) < 0 := by omega
  have i1 : ¬ (9223372036854775807 : Int) < (n : Int) := by omega
  have ew : IntKind.u64.wrap (n : Int) = (n : Int) := by
    have e : IntKind.u64.wrap (n : Int) = (n : Int) % 18446744073709551616 := by simp [IntKind.wrap, IntKind.bits, IntKind.signed]
    rw [e]
    omega
  have hmk : ∀ W : World, (Instr.makeSlice 29 (.int .i64 (n : Int)) (.int .i64 (n : Int))).run Tryz.prog W = .ok (.slice (some ⟨W.heap.size, 0, none⟩) n n) (W.alloc (.cells (List.replicate n (Value.int .i64 0)).toArray 3)) := fun W => by
    have h := run_make_rowN (P := Tryz.prog) 29 3 (.int .i64 0) 1 8 Tryz.underlying29 info_intN .i64 .i64 n (by omega) (by omega) W
    rw [Nat.mul_one] at h
    have e : madeCells (Value.int .i64 0).cells n = (List.replicate n (Value.int .i64 0)).toArray := by
      apply Array.ext'
      apply List.ext_getElem?
      intro j
      by_cases hj : j < n
      · simp [madeCells, hj, Value.cells, Nat.mod_one]
      · simp [madeCells, hj, Value.cells]
    rw [e] at h
    exact h
  have HI : Hid ((Tryz.prog.info? 3).map (·.size) = some 1) := Lib.hid (by kernel_rfl)
  have hW1 : (w.alloc (.cells (List.replicate n (Value.int .i64 0)).toArray 3)).heap[w.heap.size]? = some (.cells (List.replicate n (Value.int .i64 0)).toArray 3 (0, 0)) := heap_alloc_new w _
  have HW1 := Lib.hid hW1
  have HB1 := Lib.hid (below_alloc (Below.refl w.heap.size w) (.cells (List.replicate n (Value.int .i64 0)).toArray 3))
  clear hW1
  obtain ⟨ws, hws⟩ : ∃ ws : World → World, ∀ W, ws W = W.alloc (.cells (List.replicate n (Value.int .i64 0)).toArray 3) := ⟨_, fun _ => rfl⟩
  simp only [← hws] at hmk HW1 HB1
  clear hws
  have hgz : ∀ W, Below w.heap.size w W → W.cell? ⟨b, off, none⟩ = some (.int .i64 (-1)) := fun W hW => cell_below' hW HG0.out
  have HSRC : Hid (∀ (j : Nat) v, ([Value.int .i64 (-1)] : List Value)[j]? = some v → (ws w).cell? ((⟨b, off, none⟩ : Addr).add j) = some v) := Lib.hid (fun j v hv => by
    cases j with
    | zero =>
      simp at hv
      subst hv
      rw [addr_add', Nat.add_zero]
      exact hgz _ HB1.out
    | succ j => simp at hv)
  have HN1 : Hid (([Value.int .i64 (-1)] : List Value).length = Nat.min 1 n ∧ 0 + ([Value.int .i64 (-1)] : List Value).length ≤ (List.replicate n (Value.int .i64 0)).length ∧ ∀ v ∈ ([Value.int .i64 (-1)] : List Value), v.oneCell' = true) := Lib.hid ⟨by simp; exact (Nat.min_eq_left h1).symm, by simp; omega, by simp [Value.oneCell']⟩
  clear hgz
  go_enter Tryz.func126, Tryz.ntmps126
  go_wp2_with fail
  refine HM.out.mono ?_
  rintro e w2 ⟨rfl, rfl⟩
  go_wp2_with ((refine wpList_copy_splice rfl _ _ 29 29 rfl 3 Tryz.underlying29 HI.out _ _ _ _ _ _ rfl rfl w.heap.size 0 (List.replicate n (Value.int .i64 0)) 3 HW1.out [Value.int .i64 (-1)] HN1.out.1 (fun _ => ⟨rfl, _, rfl, HSRC.out⟩) HN1.out.2.1 HN1.out.2.2 w.heap.size w HB1.out (Nat.le_refl _) ?_; intro w3 hg3 hb3; have HB3 := Lib.hid hb3; clear hb3))
  have HG3 : Hid (w3.heap[w.heap.size]? = some (.cells (List.replicate 1 (Value.int .i64 (-1)) ++ List.replicate (n - 1) (Value.int .i64 0)).toArray 3 (0, 0))) := Lib.hid (by
    have h := hg3.out
    have e : splice (List.replicate n (Value.int .i64 0)) 0 [Value.int .i64 (-1)] = List.replicate 1 (Value.int .i64 (-1)) ++ List.replicate (n - 1) (Value.int .i64 0) := splice_rep (Value.int .i64 (-1)) (Value.int .i64 0) n 0 1 (by omega)
    rw [e] at h
    exact h)
  clear hg3 HSRC HN1 HW1 HB1 hmk
  go_loopw [8] (fun i wr => ∃ k : Nat, 1 ≤ k ∧ k ≤ n ∧ i = .int .i64 k ∧ Hid (wr.heap[w.heap.size]? = some (.cells (List.replicate k (Value.int .i64 (-1)) ++ List.replicate (n - k) (Value.int .i64 0)).toArray 3 (0, 0))) ∧ Below w.heap.size w wr) (fun i _ => n - (intOf i).toNat)
  case atStart => exact ⟨1, by omega, by omega, rfl, HG3, HB3.out⟩
  case round =>
    obtain ⟨k, hk1, hkn, rfl, HGR, hbr⟩ := hrel
    have HR := Lib.hid hbr
    clear hbr HG3 HB3
    by_cases hlt : k < n
    rotate_left
    · obtain rfl : k = n := by omega
      have HE : Hid (wr.heap[w.heap.size]? = some (.cells (List.replicate k (Value.int .i64 (-1))).toArray 3 (0, 0))) := Lib.hid (by
        have h := HGR.out
        rw [Nat.sub_self, List.replicate_zero, List.append_nil] at h
        exact h)
      clear HGR
      go_wp2_with fail
      go_ret
      exact ⟨rfl, HE.out, HR.out⟩
    have k0 : (0 : Int) ≤ (k : Int) := by omega
    have k1 : (k : Int) ≤ (n : Int) := by omega
    have k2 : (k : Int) < (n : Int) := by omega
    have k3 : ¬ n = k := by omega
    obtain ⟨q, hq⟩ : ∃ q, q = min k (n - k) := ⟨_, rfl⟩
    have hq1 : 1 ≤ q ∧ k + q ≤ n := by omega
    have HSR : Hid (∀ W : World, W.heap[w.heap.size]? = some (.cells (List.replicate k (Value.int .i64 (-1)) ++ List.replicate (n - k) (Value.int .i64 0)).toArray 3 (0, 0)) → ∀ (j : Nat) v, (List.replicate q (Value.int .i64 (-1)))[j]? = some v → W.cell? ((⟨w.heap.size, 0, none⟩ : Addr).add j) = some v) := Lib.hid (fun W hW j v hv => by
      have hj : j < q := by have := (List.getElem?_eq_some_iff.1 hv).1; simpa using this
      rw [List.getElem?_replicate, if_pos hj] at hv
      rw [addr_add', Nat.zero_add, cell_of_row W w.heap.size j _ 3 (0, 0) hW, ← hv]
      rw [List.getElem?_toArray, List.getElem?_append_left (by simp; omega), List.getElem?_replicate, if_pos (by omega)])
    have HN2 : Hid ((List.replicate q (Value.int .i64 (-1))).length = Nat.min k (n - k) ∧ k + (List.replicate q (Value.int .i64 (-1))).length ≤ (List.replicate k (Value.int .i64 (-1)) ++ List.replicate (n - k) (Value.int .i64 0)).length ∧ ∀ v ∈ List.replicate q (Value.int .i64 (-1)), v.oneCell' = true) := Lib.hid ⟨by rw [List.length_replicate, hq], by simp <;> omega, fun v hv => by rw [List.eq_of_mem_replicate hv]; rfl⟩
    have HSP := Lib.hid (splice_rep (Value.int .i64 (-1)) (Value.int .i64 0) n k q hq1.2)
    have eq1 : IntKind.i64.wrap ((k : Int) + (q : Int)) = ((k + q : Nat) : Int) := by rw [IntWalk.i64_in _ (by omega)]; omega
    have eql : (List.replicate q (Value.int .i64 (-1))).length = q := by simp
    have EQL := Lib.hid eql
    clear hq eql
    generalize List.replicate q (Value.int .i64 (-1)) = cs at *
    generalize List.replicate k (Value.int .i64 (-1)) ++ List.replicate (n - k) (Value.int .i64 0) = cur at *
    go_wp2_with fail
    go_region_held3 (fun w' => w'.heap[w.heap.size]? = some (.cells cur.toArray 3 (0, 0)) ∨ True)
      (first | exact .inr trivial | fail)
      (first
        | (refine step_copy_splice rfl (.tmp 41) (.tmp 44) 29 29 rfl 3 Tryz.underlying29 HI.out _ _ _ _ _ _ rfl rfl w.heap.size k cur 3 HGR.out cs HN2.out.1 (fun _ => ⟨rfl, _, rfl, HSR.out _ HGR.out⟩) HN2.out.2.1 HN2.out.2.2 w.heap.size w (below_drew HR.out) (Nat.le_refl _) ?_; intro w4 hg4 hb4; have HB4 := Lib.hid hb4; clear hb4)
        | fail)
    have HG4 : Hid (w4.heap[w.heap.size]? = some (.cells (List.replicate (k + q) (Value.int .i64 (-1)) ++ List.replicate (n - (k + q)) (Value.int .i64 0)).toArray 3 (0, 0))) := Lib.hid (by
      have h := hg4.out
      rw [HSP.out] at h
      exact h)
    have EQ2 := Lib.hid eq1
    clear hg4 HSP HSR HN2 HGR
    go_wp2_with fail
    go_roundw
    case rel => exact ⟨k + q, by omega, hq1.2, by rw [EQL.out, EQ2.out], HG4, HB4.out⟩
    case measure => simp [intOf]; rw [EQL.out]; omega
end Go.Proofs.YtgjllminidlolaaGreatDoor
/- Contracts: slices.Clone of a timetable; PostAdd of the program. -/
set_option linter.unusedVariables false
namespace Go.Proofs.YtgjllminidlolaaGreatDoor
open Go.RowKit

theorem info_stop : (Tryz.prog.info? 103).map (fun i => (i.zero, i.size, i.bytes)) = some (some (.agg #[.int .i64 0, .int .i64 0, .int .i64 0]), 3, 24) := by kernel_rfl
theorem info_tt : (Tryz.prog.info? 50).map (fun i => (i.zero, i.size, i.bytes)) = some (some (.slice none 0 0), 1, 24) := by kernel_rfl
/-- A slice as a value. -/
structure Slv where
  A : Option Addr
  n : Nat
  c : Nat
def Slv.v (s : Slv) : Value := .slice s.A s.n s.c
def encW (s : Slv) : List Value := [s.v]
theorem encW_len (s : Slv) : (encW s).length = 1 := rfl
theorem encW_one (s : Slv) : ∀ u ∈ encW s, u.oneCell' = true := by
  intro u hu
  simp [encW] at hu
  subst hu
  rfl
theorem own_WV {ty base : Nat} {W : World} {v : Value} {ss : List Slv} (h : OwnE 1 encW ty base W v ss) : OwnE 1 encV ty base W v (ss.map Slv.v) := by
  have e : (ss.map Slv.v).flatMap encV = ss.flatMap encW := by
    rw [List.flatMap_map]
    rfl
  unfold OwnE at *
  rw [e, List.length_map]
  exact h
/-- Timetables of a call's own, each one apart from the row that holds them. -/
def NetB (base : Nat) (W : World) (v : Value) (net : List (List T3)) : Prop :=
  ∃ ss : List Slv, OwnE 1 encW 50 base W v ss ∧ ss.length = net.length ∧ ∀ (j : Nat) (s : Slv) xs, ss[j]? = some s → net[j]? = some xs → OwnE 3 enc3 103 base W s.v xs ∧ ∀ i, s.v.ownBlock = some i → v.ownBlock ≠ some i
theorem ne_of_all {u v : Value} (h : ∀ i, u.ownBlock = some i → v.ownBlock ≠ some i) : u.ownBlock = none ∨ u.ownBlock ≠ v.ownBlock := by
  cases hu : u.ownBlock with
  | none => exact .inl rfl
  | some i => exact .inr (fun e => h i hu e.symm)
theorem NetB.below {base : Nat} {W W' : World} {v : Value} {net : List (List T3)} (h : NetB base W v net) (hb : Below W.heap.size W W') : NetB base W' v net := by
  obtain ⟨ss, h1, h2, h3⟩ := h
  exact ⟨ss, h1.below hb (Nat.le_refl _), h2, fun j s xs hs hx => ⟨(h3 j s xs hs hx).1.below hb (Nat.le_refl _), (h3 j s xs hs hx).2⟩⟩
theorem NetB.drew {base : Nat} {W : World} {v : Value} {net : List (List T3)} (h : NetB base W v net) : NetB base W.drew v net := h.below (below_drew (Below.refl _ _))
theorem NetB.nil {base : Nat} {W : World} (hb : base ≤ W.heap.size) : NetB base (W.alloc (.cells #[] 50)) (.slice (some ⟨W.heap.size, 0, none⟩) 0 0) [] :=
  ⟨[], own_new W _ _ hb encW_len [] #[] rfl (by simp) rfl, rfl, fun j s xs hs => by simp at hs⟩
theorem NetB.netS {base : Nat} {W : World} {v : Value} {net : List (List T3)} (h : NetB base W v net) : ∃ A c, v = .slice A net.length c ∧ NetS W A net.length net ∧ net.length ≤ c := by
  obtain ⟨ss, h1, h2, h3⟩ := h
  obtain ⟨A, c, rfl, hs, hc⟩ := (own_WV h1).slc encV_len (n := net.length) (by rw [List.length_map, h2])
  refine ⟨A, c, rfl, ⟨_, hs, by rw [List.length_map, h2], fun j u xs hu hx => ?_⟩, hc⟩
  rw [List.getElem?_map] at hu
  obtain ⟨s, hs', rfl⟩ := Option.map_eq_some_iff.1 hu
  obtain ⟨A', c', hv, hsl, hc'⟩ := (h3 j s xs hs' hx).1.slc enc3_len rfl
  exact ⟨A', _, c', hv, hsl, hc'⟩
/-- One more timetable. -/
theorem NetB.push {base : Nat} {W w' : World} {v v' : Value} {net : List (List T3)} {ss : List Slv} {s : Slv} {xs : List T3} (h1 : OwnE 1 encW 50 base W v ss) (h2 : ss.length = net.length)
    (h3 : ∀ (j : Nat) (s : Slv) xs, ss[j]? = some s → net[j]? = some xs → OwnE 3 enc3 103 base W s.v xs ∧ ∀ i, s.v.ownBlock = some i → v.ownBlock ≠ some i) (hs : OwnE 3 enc3 103 base W s.v xs) (hne : ∀ i, s.v.ownBlock = some i → v.ownBlock ≠ some i)
    (hown : OwnE 1 encW 50 base w' v' (ss ++ [s])) (hg : W.grownBy w' v.ownBlock) (hl : v'.ownBlock = v.ownBlock ∨ v'.ownBlock = some (W.heap.size + 1)) : NetB base w' v' (net ++ [xs]) := by
  have key : ∀ (u : Slv) ys, OwnE 3 enc3 103 base W u.v ys → (∀ i, u.v.ownBlock = some i → v.ownBlock ≠ some i) → OwnE 3 enc3 103 base w' u.v ys ∧ ∀ i, u.v.ownBlock = some i → v'.ownBlock ≠ some i := fun u ys hu hn => by
    refine ⟨OwnE.apart hu hg (ne_of_all hn), fun i hi => ?_⟩
    rcases hl with hl | hl
    · rw [hl]; exact hn i hi
    · rw [hl]
      intro e
      injection e with e
      have := (hu.lt i hi).2
      omega
  refine ⟨ss ++ [s], hown, by rw [List.length_append, List.length_append, h2]; rfl, fun j u ys hu hy => ?_⟩
  by_cases hj : j < ss.length
  · rw [List.getElem?_append_left hj] at hu
    rw [List.getElem?_append_left (by omega)] at hy
    exact key u ys (h3 j u ys hu hy).1 (h3 j u ys hu hy).2
  · have hj2 := (List.getElem?_eq_some_iff.1 hu).1
    rw [List.length_append, List.length_singleton] at hj2
    obtain rfl : j = ss.length := by omega
    rw [List.getElem?_append_right (Nat.le_refl _), Nat.sub_self] at hu
    rw [h2, List.getElem?_append_right (Nat.le_refl _), Nat.sub_self] at hy
    simp only [List.getElem?_cons_zero, Option.some.injEq] at hu hy
    subst hu hy
    exact key _ _ hs hne

theorem nil_stop (A : Option Addr) (len c : Nat) (w : World) : Sem.run Tryz.prog (Go.binOp .eql 50 (.slice A len c) (.slice none 0 0)) w = Result.ok (.bool A.isNone) w := by
  cases A <;> kernel_rfl
/-- A timetable has been copied. -/
def Cloned (xs : List T3) (w : World) (e : Ending) (w' : World) : Prop := ∃ s : Slv, e = .returned s.v ∧ OwnE 3 enc3 103 w.heap.size w' s.v xs ∧ Below w.heap.size w w'
set_option maxRecDepth 20000 in
set_option maxHeartbeats 800000 in
theorem cloneS_any (A : Option Addr) (len c : Nat) (xs : List T3) (w : World) (h : SlE 3 enc3 w A len xs) (hn : len ≤ 16777216) :
    Calls Tryz.prog 208 #[.slice A len c] w (Cloned xs w) := by
  have H := Lib.hid h
  cases A with
  | none =>
    have hx : xs = [] := by
      rcases Nat.eq_zero_or_pos len with h0 | h0
      · exact List.eq_nil_of_length_eq_zero (by rw [h.len]; exact h0)
      · obtain ⟨b, off, hA, _⟩ := h.2 h0
        cases hA
    have HX := Lib.hid hx
    clear h hx
    go_enter Tryz.func208, Tryz.ntmps208
    go_wp2_with fail
    rw [nil_stop]
    go_wp2_with fail
    go_ret
    exact ⟨⟨none, 0, 0⟩, rfl, by rw [HX.out]; exact ⟨by simp, .inl ⟨rfl, rfl⟩⟩, Below.refl _ _⟩
  | some a =>
    have O1 := Lib.hid (own_new (enc := enc3) (k := 3) w 103 w.heap.size (Nat.le_refl _) enc3_len [] #[] rfl (by simp) rfl)
    have HB1 := Lib.hid (below_alloc (Below.refl w.heap.size w) (.cells #[] 103))
    clear h
    go_enter Tryz.func208, Tryz.ntmps208
    go_wp2_with fail
    rw [nil_stop]
    go_wp2_with (at_builtin; refine wpList_cat (bytes := 24) enc3_len enc3_one (by omega) rfl _ _ _ rfl Tryz.underlying50 info_stop rfl _ [] rfl O1.out rfl (H.out.below HB1.out) (by simp; omega) (by simp [maxLen]; omega) HB1.out.size ?_; intro v' w' hown' hg'; have HO' := Lib.hid hown'; have HB' := Lib.hid (below_grown HB1.out hg' O1.out (Nat.le_refl _)); clear hown' hg')
    obtain ⟨A2, c2, rfl, -, -⟩ := HO'.out.slc enc3_len rfl
    go_wp2_with fail
    go_ret
    exact ⟨⟨A2, _, c2⟩, rfl, HO'.out, HB'.out⟩

/-- A net has been returned. -/
def PostAdded (b : Bool) (ys : List (List T3)) (w : World) (e : Ending) (w' : World) : Prop := ∃ v, e = .returned (.tuple #[v, .bool b]) ∧ NetB w.heap.size w' v ys ∧ Below w.heap.size w w'
theorem net_prefix {n : Int} {net : List (List T3)} {xs : List T3} (h : NetOk n (net ++ [xs])) : NetOk n net :=
  ⟨h.1, h.2.1, by have := h.2.2.1; rw [List.length_append] at this; omega, fun ys hy => h.2.2.2 ys (List.mem_append_left _ hy)⟩
theorem netLen_app {net : List (List T3)} {xs : List T3} (h : NetLen net) (hx : xs.length ≤ 16777216) : NetLen (net ++ [xs]) := fun ys hy => by
  rcases List.mem_append.1 hy with hy | hy
  · exact h ys hy
  · rw [List.mem_singleton.1 hy]; exact hx
set_option maxRecDepth 20000 in
set_option maxHeartbeats 3200000 in
theorem implPostAdd_any (A B : Option Addr) (n : Int) (m cap len c : Nat) (net : List (List T3)) (xs : List T3) (b : Bool) (ys : List (List T3)) (w : World) (h : NetS w A m net) (hm : m ≤ 1000000) (hl : NetLen net) (hx : SlE 3 enc3 w B len xs) (hlen : len ≤ 16777216)
    (hb : (b = true ∧ NetOk n (net ++ [xs]) ∧ ys = net ++ [xs]) ∨ (b = false ∧ ¬ NetOk n (net ++ [xs]) ∧ ys = [])) :
    Calls Tryz.prog 181 #[.int .i64 n, .slice A m cap, .slice B len c] w (PostAdded b ys w) := by
  have H := Lib.hid h
  have HL := Lib.hid h.len
  have HLL := Lib.hid hl
  have HX := Lib.hid hx
  have HB := Lib.hid hb
  have HNV := Lib.hid (fun W hW => implNetValid_any A n m cap net W (h.below hW) (by omega) hl)
  clear h hl hx hb
  go_enter Tryz.func181, Tryz.ntmps181
  go_wp2_with fail
  go_loopw [8, 14] (fun v i wr => ∃ k : Nat, k ≤ m ∧ i = .int .i64 k ∧ NetB w.heap.size wr v (net.take k) ∧ Below w.heap.size w wr) (fun _ i _ => m - (intOf i).toNat)
  case atStart => exact ⟨0, by omega, rfl, NetB.nil (Nat.le_refl _), below_alloc (Below.refl _ _) _⟩
  case round =>
    obtain ⟨k, hk, rfl, hnb, hbr⟩ := hrel
    have HR := Lib.hid hbr
    have hsz := hbr.size
    by_cases hkm : k < m
    · obtain ⟨bb, off, A', n', c', zs, rfl, hbl, hcell, hz, hsl, hnc⟩ := H.out.at_ hbr hkm
      have HZ := Lib.hid hz
      have HCS := Lib.hid (cloneS_any A' n' c' zs wr (hsl.below hbr) (by have h1 := HLL.out zs (List.mem_of_getElem? hz); rw [hsl.len] at h1; exact h1))
      have HNB := Lib.hid hnb
      clear hz hsl hnb
      go_wp2_with fail
      refine HCS.out.mono ?_
      rintro e w2 ⟨⟨sA, sn, sc⟩, he, hs, hb2⟩
      have he : e = .returned (.slice sA sn sc) := he
      subst he
      obtain ⟨ss, h1, h2, h3⟩ := HNB.out
      have HNS := Lib.hid (fun i (hi : (Slv.mk sA sn sc).v.ownBlock = some i) (e : u8.ownBlock = some i) => by
        have e1 := (hs.lt i hi).1
        have e2 := (h1.lt i e).2
        omega : ∀ i, (Slv.mk sA sn sc).v.ownBlock = some i → u8.ownBlock ≠ some i)
      have HS := Lib.hid (hs.base_le hbr.size)
      have HB2 := Lib.hid (below_trans hbr hb2)
      have HSZ := Lib.hid HB2.out.size
      have H1 := Lib.hid (h1.below hb2 (Nat.le_refl _))
      have H2 := Lib.hid h2
      have H3 := Lib.hid (fun (j : Nat) (s : Slv) xs (hs : ss[j]? = some s) (hx : (net.take k)[j]? = some xs) => (⟨(h3 j s xs hs hx).1.below hb2 (Nat.le_refl _), (h3 j s xs hs hx).2⟩ : OwnE 3 enc3 103 w.heap.size w2 s.v xs ∧ ∀ i, s.v.ownBlock = some i → u8.ownBlock ≠ some i))
      have HLK := Lib.hid (by rw [h2, List.length_take, HL.out]; omega : ss.length = k)
      clear hs hb2 h1 h2 h3 hbr hsz
      go_wp2_with (at_builtin; refine wpList_push_at 1 24 50 encW encW_len encW_one (by omega) ⟨sA, sn, sc⟩ _ _ rfl rfl _ _ _ rfl Tryz.underlying45 info_tt rfl w.heap.size _ ss rfl rfl rfl H1.out (by rw [HLK.out]; omega) (by rw [HLK.out]; unfold maxLen; omega) HSZ.out ?_; intro v' w' hown' hg' hl'; have NB := Lib.hid (NetB.push H1.out H2.out H3.out HS.out HNS.out hown' hg' hl'); have HB' := Lib.hid (below_grown HB2.out hg' H1.out (Nat.le_refl _)); clear hown' hg' hl')
      refine ⟨⟨k + 1, hkm, by push_cast; rfl, ?_, HB'.out⟩, by simp only [intOf]; omega⟩
      rw [List.take_add_one, HZ.out]
      exact NB.out
    · obtain rfl : k = m := by omega
      have HNB := Lib.hid (show NetB w.heap.size wr u8 net by rw [List.take_of_length_le (by rw [HL.out]; omega)] at hnb; exact hnb)
      have HCS := Lib.hid (cloneS_any B len c xs wr (HX.out.below hbr) hlen)
      clear hnb
      go_wp2_with fail
      refine HCS.out.mono ?_
      rintro e w2 ⟨⟨sA, sn, sc⟩, he, hs, hb2⟩
      have he : e = .returned (.slice sA sn sc) := he
      subst he
      obtain ⟨ss, h1, h2, h3⟩ := HNB.out
      have HNS := Lib.hid (fun i (hi : (Slv.mk sA sn sc).v.ownBlock = some i) (e : u8.ownBlock = some i) => by
        have e1 := (hs.lt i hi).1
        have e2 := (h1.lt i e).2
        omega : ∀ i, (Slv.mk sA sn sc).v.ownBlock = some i → u8.ownBlock ≠ some i)
      have HS := Lib.hid (hs.base_le hbr.size)
      have HB2 := Lib.hid (below_trans hbr hb2)
      have HSZ := Lib.hid HB2.out.size
      have H1 := Lib.hid (h1.below hb2 (Nat.le_refl _))
      have H2 := Lib.hid h2
      have H3 := Lib.hid (fun (j : Nat) (s : Slv) xs (hs : ss[j]? = some s) (hx : (net)[j]? = some xs) => (⟨(h3 j s xs hs hx).1.below hb2 (Nat.le_refl _), (h3 j s xs hs hx).2⟩ : OwnE 3 enc3 103 w.heap.size w2 s.v xs ∧ ∀ i, s.v.ownBlock = some i → u8.ownBlock ≠ some i))
      have HLK := Lib.hid (by rw [h2, HL.out] : ss.length = k)
      clear hs hb2 h1 h2 h3 hbr hsz
      go_wp2_with (at_builtin; refine wpList_push_at 1 24 50 encW encW_len encW_one (by omega) ⟨sA, sn, sc⟩ _ _ rfl rfl _ _ _ rfl Tryz.underlying45 info_tt rfl w.heap.size _ ss rfl rfl rfl H1.out (by rw [HLK.out]; omega) (by rw [HLK.out]; unfold maxLen; omega) HSZ.out ?_; intro v' w' hown' hg' hl'; have NB := Lib.hid (NetB.push H1.out H2.out H3.out HS.out HNS.out hown' hg' hl'); have HB' := Lib.hid (below_grown HB2.out hg' H1.out (Nat.le_refl _)); clear hown' hg' hl')
      obtain ⟨A2, m2, c2, rfl, hm2, hns2⟩ : ∃ A2 m2 c2, v' = .slice A2 m2 c2 ∧ m2 = k + 1 ∧ NetS w' A2 m2 (net ++ [xs]) := by
        obtain ⟨A2, c2, h1, h2, -⟩ := NB.out.netS
        exact ⟨A2, _, c2, h1, by rw [List.length_append, HL.out]; rfl, h2⟩
      have HM2 := Lib.hid hm2
      have HNS2 := Lib.hid hns2
      have HV1 := Lib.hid (HNV.out _ HB'.out)
      clear hns2 hm2
      go_wp2_with fail
      refine HV1.out.mono ?_
      intro e w3 hp
      by_cases k1 : NetOk n net
      · obtain ⟨rfl, hb3⟩ := hp.yes k1
        have HB3 := Lib.hid hb3
        have HV2 := Lib.hid (implNetValid_any A2 n m2 c2 (net ++ [xs]) w3 (HNS2.out.below hb3) (by rw [HM2.out]; omega) (netLen_app HLL.out (by rw [HX.out.len]; exact hlen)))
        clear hp hb3
        go_wp2_with fail
        refine HV2.out.mono ?_
        intro e w4 hp
        rcases HB.out with ⟨rfl, h5, rfl⟩ | ⟨rfl, h5, rfl⟩
        · obtain ⟨rfl, hb4⟩ := hp.yes h5
          have HB4 := Lib.hid hb4
          clear hp hb4
          go_wp2_with fail
          go_ret2
          exact ⟨_, rfl, (NB.out.below HB3.out).below HB4.out, below_trans (below_trans HB'.out HB3.out) HB4.out⟩
        · obtain ⟨rfl, hb4⟩ := hp.no h5
          have HB4 := Lib.hid hb4
          clear hp hb4
          go_wp2_with fail
          go_ret2
          have hb4 := below_trans (below_trans HB'.out HB3.out) HB4.out
          exact ⟨_, rfl, NetB.nil hb4.size, below_alloc hb4 _⟩
      · obtain ⟨rfl, hb3⟩ := hp.no k1
        rcases HB.out with ⟨rfl, h5, rfl⟩ | ⟨rfl, h5, rfl⟩
        · exact absurd (net_prefix h5) k1
        · have HB3 := Lib.hid hb3
          clear hp hb3
          go_wp2_with fail
          go_ret2
          have hb4 := below_trans HB'.out HB3.out
          exact ⟨_, rfl, NetB.nil hb4.size, below_alloc hb4 _⟩
end Go.Proofs.YtgjllminidlolaaGreatDoor
