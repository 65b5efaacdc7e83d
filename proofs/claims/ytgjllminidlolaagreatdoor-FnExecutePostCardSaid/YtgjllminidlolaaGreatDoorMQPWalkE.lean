/- Contracts: rides and spread: all that a letter in a town can reach. -/
import Derived.Test.YtgjllminidlolaaGreatDoorMQPWalkD
import Derived.Test.YtgjllminidlolaaGreatDoorMAL
import Derived.Test.YtgjllminidlolaaGreatDoorMAB
set_option linter.unusedVariables false
namespace Go.Proofs.YtgjllminidlolaaGreatDoor
open Go.RowKit

/-- Timetables in memory, to be read. -/
def NetS (W : World) (A : Option Addr) (m : Nat) (net : List (List T3)) : Prop :=
  ∃ vs : List Value, SlE 1 encV W A m vs ∧ vs.length = net.length ∧ ∀ (j : Nat) u xs, vs[j]? = some u → net[j]? = some xs → ∃ A' n' c', u = .slice A' n' c' ∧ SlE 3 enc3 W A' n' xs ∧ n' ≤ c'
theorem NetS.len {W : World} {A : Option Addr} {m : Nat} {net : List (List T3)} (h : NetS W A m net) : net.length = m := by
  obtain ⟨vs, h1, h2, _⟩ := h
  rw [← h2]
  exact h1.len
theorem NetS.below {W W' : World} {A : Option Addr} {m : Nat} {net : List (List T3)} (h : NetS W A m net) (hb : Below W.heap.size W W') : NetS W' A m net := by
  obtain ⟨vs, h1, h2, h3⟩ := h
  refine ⟨vs, h1.below hb, h2, fun j u xs hu hx => ?_⟩
  obtain ⟨A', n', c', rfl, h4, h5⟩ := h3 j u xs hu hx
  exact ⟨A', n', c', rfl, h4.below hb, h5⟩
theorem NetS.drew {W : World} {A : Option Addr} {m : Nat} {net : List (List T3)} (h : NetS W A m net) : NetS W.drew A m net := h.below (below_drew (Below.refl _ _))
theorem NetS.at_ {W W' : World} {A : Option Addr} {m : Nat} {net : List (List T3)} (h : NetS W A m net) (hb : Below W.heap.size W W') {j : Nat} (hj : j < m) :
    ∃ b off A' n' c' xs, A = some ⟨b, off, none⟩ ∧ b < W'.heap.size ∧ W'.cell? ⟨b, off + j, none⟩ = some (.slice A' n' c') ∧ net[j]? = some xs ∧ SlE 3 enc3 W A' n' xs ∧ n' ≤ c' := by
  have hl := h.len
  obtain ⟨vs, h1, h2, h3⟩ := h
  obtain ⟨b, off, u, hA, hlt, hu, _, hc⟩ := (h1.below hb).at_ hj
  have hx : net[j]? = some (net[j]'(by omega)) := List.getElem?_eq_getElem (by omega)
  obtain ⟨A', n', c', rfl, h4, h5⟩ := h3 j u _ hu hx
  exact ⟨b, off, A', n', c', _, hA, hlt, by have := hc 0 _ rfl; simpa using this, hx, h4, h5⟩
theorem below_T {W0 W W' : World} {T : Nat} (hb : Below W0.heap.size W0 W) (hg : W.grownBy W' (some T)) (hT : W0.heap.size ≤ T) : Below W0.heap.size W0 W' :=
  hb.grown hg hb.size (fun j hj => by injection hj with hj; omega)
theorem grown_in {a b c : World} {r : Option Nat} (h : Below a.heap.size a b) (k : b.grownBy c r) : a.grownBy c r := grown_trans ⟨h.os, h.tape, h.output, h.size, fun j hj _ => h.block j hj⟩ k

/-- What stays as it is while a letter's ways are sought. -/
structure PEnv (W0 : World) (P T : Nat) (A : Option Addr) (m cN : Nat) (net : List (List T3)) (s0 t0 ch : Int) (n c : Nat) : Prop where
  ok : PostOk n net s0 t0 ch
  net : NetS W0 A m net
  base : W0.heap.size ≤ T
  cap : n ≤ c
/-- How spread and rides end. -/
def Spread (P T : Nat) (N : Value) (net : List (List T3)) (s0 t0 ch : Int) (n c : Nat) (f : Int → Int) (u : Int) (W : World) (e : Ending) (W' : World) : Prop :=
  e = .returned (.tuple #[]) ∧ ∃ f', PtAt P T N s0 ch n c f' W' ∧ W.grownBy W' (some T) ∧ Spr net s0 t0 ch n f u f'
/-- How the function that spread hands on ends. -/
def Stepped (P T : Nat) (N : Value) (net : List (List T3)) (s0 t0 ch : Int) (n c : Nat) (f : Int → Int) (x y : Int) (W : World) (e : Ending) (W' : World) : Prop :=
  e = .returned (.tuple #[]) ∧ ∃ f', PtAt P T N s0 ch n c f' W' ∧ W.grownBy W' (some T) ∧ ((f' = f ∧ 0 ≤ f x ∧ f x ≤ y) ∨ ((f x < 0 ∨ y < f x) ∧ Spr net s0 t0 ch n (updI f x y) x f'))
/-- What that function does, up to a measure. -/
def StepGo (W0 : World) (P T g : Nat) (N : Value) (net : List (List T3)) (s0 t0 ch : Int) (n c M : Nat) : Prop :=
  ∀ (W : World) (f : Int → Int) (x : Nat) (y z : Int), Below W0.heap.size W0 W → PtAt P T N s0 ch n c f W → SndP net s0 t0 ch f → muP n f ≤ M → x < n → 0 ≤ y → y ≤ 10000 → Come net s0 t0 ch x y → W.cell? ⟨g, 0, none⟩ = some (.pointer (some ⟨P, 0, none⟩)) →
    Calls Tryz.prog 128 #[.agg #[.int .i64 x, .int .i64 y, .int .i64 z], .pointer (some ⟨g, 0, none⟩)] W (Stepped P T N net s0 t0 ch n c f x y W)
/-- What spread does, up to a measure. -/
def SpreadGo (W0 : World) (P T : Nat) (N : Value) (net : List (List T3)) (s0 t0 ch : Int) (n c M : Nat) : Prop :=
  ∀ (W : World) (f : Int → Int) (u : Nat), Below W0.heap.size W0 W → PtAt P T N s0 ch n c f W → SndP net s0 t0 ch f → muP n f ≤ M → u < n →
    Calls Tryz.prog 96 #[.pointer (some ⟨P, 0, none⟩), .int .i64 u] W (Spread P T N net s0 t0 ch n c f u W)

set_option maxRecDepth 20000 in
set_option maxHeartbeats 1600000 in
theorem step_go {W0 : World} {P T g : Nat} {A : Option Addr} {m cN : Nat} {net : List (List T3)} {s0 t0 ch : Int} {n c M : Nat} (E : PEnv W0 P T A m cN net s0 t0 ch n c) (hgT : g ≠ T)
    (ih : ∀ M', M' < M → SpreadGo W0 P T (.slice A m cN) net s0 t0 ch n c M') : StepGo W0 P T g (.slice A m cN) net s0 t0 ch n c M := by
  intro W f x y z hb pt hs hm hx y0 y1 hcm hg
  have hTL := pt.tl
  have HB := Lib.hid hb
  have HS := Lib.hid hs
  have HM := Lib.hid hm
  have HC := Lib.hid hcm
  have IH := Lib.hid ih
  have BX := Lib.hid (below_alloc (Below.refl W.heap.size W) (.cells #[.int .i64 (x : Int), .int .i64 y, .int .i64 z] 103))
  have PX := Lib.hid (pt.below BX.out)
  have hgl := World.block_lt_of_cell? W _ hg
  simp only at hgl
  have hHG : ∀ W', Below W.heap.size W W' → W'.cell? ⟨g, 0, none⟩ = some (.pointer (some ⟨P, 0, none⟩)) := fun W' hW => cell_below' hW hg
  have HRE := Lib.hid (fun W' h => reach_any (P := P) (T := T) (N := .slice A m cN) (s0 := s0) (ch := ch) (f := f) x y W' h hx E.cap)
  clear hb hs hm hcm ih pt hHG
  have hc0 : ∀ j, (W.alloc (.cells #[.int .i64 (x : Int), .int .i64 y, .int .i64 z] 103)).cell? ⟨W.heap.size, j, none⟩ = (#[.int .i64 (x : Int), .int .i64 y, .int .i64 z] : Array Value)[j]? := fun j => cell_of_row _ _ j _ 103 (0, 0) (heap_alloc_new W _)
  have HCX := Lib.hid (hc0 0)
  have hgx : (W.alloc (.cells #[.int .i64 (x : Int), .int .i64 y, .int .i64 z] 103)).cell? ⟨g, 0, none⟩ = some (.pointer (some ⟨P, 0, none⟩)) := by rw [World.cell?_alloc_lt _ _ _ hgl]; exact hg
  have HGX := Lib.hid hgx
  have hzx : (W.alloc (.cells #[.int .i64 (x : Int), .int .i64 y, .int .i64 z] 103)).heap.size = W.heap.size + 1 := by simp
  have HZX := Lib.hid hzx
  have HTL := Lib.hid hTL
  clear hc0 hgx hzx hTL
  go_enter Tryz.func128, Tryz.ntmps128
  go_wp2_with fail
  refine (HRE.out _ PX.out).mono ?_
  rintro e w2 (⟨rfl, hr, rfl⟩ | ⟨rfl, hr, pt2, hg2⟩)
  · have HR := Lib.hid hr
    clear hr
    go_wp2_with fail
    (try simp only [Exit.inBlock, Exit.then])
    refine bodyPost_ret (results_none rfl _ _ _) rfl ?_
    exact ⟨rfl, f, PX.out, grown_in BX.out ⟨rfl, rfl, rfl, Nat.le_refl _, fun _ _ _ => rfl⟩, .inl ⟨rfl, HR.out⟩⟩
  · have HR := Lib.hid hr
    have P2 := Lib.hid pt2
    have HG2 := Lib.hid (grown_in BX.out hg2)
    have HB2 := Lib.hid (below_T (HB.out.trans (BX.out.mono HB.out.size)) hg2 E.base)
    have q0 : w2.cell? ⟨W.heap.size, 0, none⟩ = some (.int .i64 (x : Int)) := by
      rw [grown_cell hg2 (by rw [HZX.out]; omega) (fun e => by injection e with e; have := HTL.out; omega)]
      exact HCX.out
    have q1 : w2.cell? ⟨g, 0, none⟩ = some (.pointer (some ⟨P, 0, none⟩)) := by
      rw [grown_cell hg2 (by rw [HZX.out]; omega) (fun e => by injection e with e; exact hgT e.symm)]
      exact HGX.out
    have hmu : Hid (muP n (updI f x y) < muP n f) := Lib.hid (muP_put (by omega) y0 y1 (by have := HR.out; omega) n (by omega))
    have HSP := Lib.hid (IH.out (muP n (updI f x y)) (Nat.lt_of_lt_of_le hmu.out HM.out) w2 (updI f x y) x HB2.out P2.out (snd_put HS.out y0 HC.out) (Nat.le_refl _) hx)
    clear hr pt2 hg2 hmu IH
    go_wp2_with fail
    refine HSP.out.mono ?_
    rintro e w3 ⟨rfl, f', pt3, hg3, hsp⟩
    have HE := Lib.hid (And.intro pt3 (And.intro (grown_trans HG2.out hg3) hsp))
    clear pt3 hg3 hsp HSP
    go_wp2_with fail
    (try simp only [Exit.inBlock, Exit.then])
    refine bodyPost_ret (results_none rfl _ _ _) rfl ?_
    exact ⟨rfl, f', HE.out.1, HE.out.2.1, .inr ⟨HR.out, HE.out.2.2⟩⟩
set_option maxRecDepth 20000 in
set_option maxHeartbeats 6400000 in
theorem rides_go {W0 : World} {P T g : Nat} {A : Option Addr} {m cN : Nat} {net : List (List T3)} {s0 t0 ch : Int} {n c M : Nat} (E : PEnv W0 P T A m cN net s0 t0 ch n c) (hgT : g ≠ T)
    (hstep : StepGo W0 P T g (.slice A m cN) net s0 t0 ch n c M) (W : World) (f : Int → Int) (u : Nat) (hb : Below W0.heap.size W0 W) (pt : PtAt P T (.slice A m cN) s0 ch n c f W) (hs : SndP net s0 t0 ch f) (hm : muP n f ≤ M) (hu : u < n)
    (hg : W.cell? ⟨g, 0, none⟩ = some (.pointer (some ⟨P, 0, none⟩))) :
    Calls Tryz.prog 127 #[.pointer (some ⟨P, 0, none⟩), .int .i64 u, .func (.func 128) #[] #[.pointer (some ⟨g, 0, none⟩)]] W (Spread P T (.slice A m cN) net s0 t0 ch n c f u W) := by
  have hTL := pt.tl
  have HTL := Lib.hid hTL
  have HB := Lib.hid hb
  have HM := Lib.hid hm
  have HST := Lib.hid hstep
  have BX := Lib.hid (below_alloc (Below.refl W.heap.size W) (.cells #[.int .i64 (u : Int)] 3))
  have PX := Lib.hid (pt.below BX.out)
  have hgl := World.block_lt_of_cell? W _ hg
  simp only at hgl
  have HGL := Lib.hid hgl
  have HUX := Lib.hid (show (W.alloc (.cells #[.int .i64 (u : Int)] 3)).cell? ⟨W.heap.size, 0, none⟩ = some (.int .i64 (u : Int)) by simp)
  have HGX := Lib.hid (show (W.alloc (.cells #[.int .i64 (u : Int)] 3)).cell? ⟨g, 0, none⟩ = some (.pointer (some ⟨P, 0, none⟩)) by rw [World.cell?_alloc_lt _ _ _ hgl]; exact hg)
  have HZX := Lib.hid (show (W.alloc (.cells #[.int .i64 (u : Int)] 3)).heap.size = W.heap.size + 1 by simp)
  have HIS := Lib.hid (inP_start hs (u : Int) (n := n))
  have HBX0 := Lib.hid (hb.trans (BX.out.mono hb.size))
  have HML := Lib.hid E.net.len
  have hm6 : m ≤ 6 := by have := E.ok.net.2.2.1; rw [E.net.len] at this; exact this
  have hpn := PX.out.net
  clear hb hm hs pt hstep hg hTL hgl
  generalize hW1 : W.alloc (.cells #[.int .i64 (u : Int)] 3) = W1 at *
  have HW1 := Lib.hid hW1
  go_enter Tryz.func127, Tryz.ntmps127
  go_wp2_with fail
  clear hpn
  go_loopw [16] (fun i wr => ∃ (j : Nat) (f' : Int → Int), j ≤ m ∧ i = .int .i64 j ∧ PtAt P T (.slice A m cN) s0 ch n c f' wr ∧ W1.grownBy wr (some T) ∧ InP net s0 t0 ch n f u j f') (fun i _ => m - (intOf i).toNat)
  case atStart => exact ⟨0, f, by omega, rfl, PX.out, World.grownBy.refl _ _, HIS.out⟩
  case round =>
    obtain ⟨j, f', hj, rfl, pt1, hg1, hin⟩ := hrel
    have P1 := Lib.hid pt1
    have G1 := Lib.hid hg1
    have I1 := Lib.hid hin
    have HBR := Lib.hid (below_T HBX0.out hg1 E.base)
    clear pt1 hg1 hin
    by_cases hjm : j < m
    rotate_left
    · obtain rfl : j = m := by omega
      have HE := Lib.hid (show Spr net s0 t0 ch n f u f' from inP_end (by rw [HML.out]; exact I1.out))
      go_wp2_with fail
      (try simp only [Exit.inBlock, Exit.then])
      refine bodyPost_ret (results_none rfl _ _ _) rfl ?_
      exact ⟨rfl, f', P1.out, grown_in BX.out G1.out, HE.out⟩
    obtain ⟨b, off, A', n', c', xs, rfl, hbl, hcell, hx, hsl, hnc⟩ := E.net.at_ HBR.out hjm
    have HX := Lib.hid hx
    have HSL0 := Lib.hid hsl
    have HSL := Lib.hid (hsl.below HBR.out)
    have hok := E.ok.net.2.2.2 xs (List.mem_of_getElem? hx)
    have hn8 : n' ≤ 8 := by have := hok.2.2.2.1; rw [hsl.len] at this; exact this
    have HOK := Lib.hid hok
    have HUW := Lib.hid (show wr.cell? ⟨W.heap.size, 0, none⟩ = some (.int .i64 (u : Int)) by rw [grown_cell G1.out (by rw [HZX.out]; omega) (fun e => by injection e with e; have := HTL.out; omega)]; exact HUX.out)
    have HGW := Lib.hid (show wr.cell? ⟨g, 0, none⟩ = some (.pointer (some ⟨P, 0, none⟩)) by rw [grown_cell G1.out (by rw [HZX.out]; have := HGL.out; omega) (fun e => by injection e with e; exact hgT e.symm)]; exact HGX.out)
    clear hx hsl hok
    go_wp2_with fail
    refine (indexRide_any (fun q => q.a = (u : Int)) (.pointer (some ⟨W.heap.size, 0, none⟩)) A' n' c' xs wr HSL.out (by omega) (fun W' hW' i x y z _ => rideTest_any x y z u W.heap.size W' (cell_below' hW' HUW.out))).mono ?_
    rintro e w2 ⟨v, rfl, hv, hb2⟩
    have HV := Lib.hid hv
    have P2 := Lib.hid (P1.out.below hb2)
    have G2 := Lib.hid (grown_below G1.out hb2)
    have HB2 := Lib.hid (HBR.out.trans (hb2.mono HBR.out.size))
    have HSL2 := Lib.hid (HSL.out.below hb2)
    have HGW2 := Lib.hid (cell_below' hb2 HGW.out)
    clear hv hb2
    rcases HV.out with ⟨rfl, hno⟩ | ⟨k, ⟨pa, pb, pc⟩, rfl, hp, hpu, hfirst⟩
    · have HN := Lib.hid (inP_next I1.out HX.out (fun i k p q _ hp _ hpu _ => absurd hpu (hno i p hp)))
      clear hno
      go_wp2_with fail
      go_roundw
      case rel => exact ⟨j + 1, f', by omega, by go_num, P2.out, G2.out, HN.out⟩
      case measure => simp [intOf]; omega
    dsimp only at hpu
    subst hpu
    have hkn : k < n' := by
      have := (List.getElem?_eq_some_iff.1 hp).1
      rw [HSL.out.len] at this
      exact this
    have hkz : ¬ (k : Int) < 0 := by omega
    have hkn2 : (k : Int) < (n' : Int) := by omega
    obtain ⟨b', off', x0, y0, z0, rfl, hbl', hp', -, q0, q1, q2⟩ := at3 HSL2.out (Below.refl _ _) hkn
    obtain ⟨rfl, rfl, rfl⟩ : x0 = (u : Int) ∧ y0 = pb ∧ z0 = pc := by
      rw [hp] at hp'
      injection hp' with hp'
      injection hp' with h1 h2 h3
      exact ⟨h1.symm, h2.symm, h3.symm⟩
    have HP := Lib.hid hp
    have HUQ : Hid (∀ (i : Nat) (p : T3), xs[i]? = some p → p.a = (u : Int) → i = k) := Lib.hid (fun i p hi hpa => by
      rcases Nat.lt_trichotomy i k with h | h | h
      · exact absurd (show p.a = (⟨(u : Int), y0, z0⟩ : T3).a from hpa) (stop_lt E.ok.net (List.mem_of_getElem? HX.out) hi HP.out h).2
      · exact h
      · exact absurd hpa.symm (stop_lt E.ok.net (List.mem_of_getElem? HX.out) HP.out hi h).2)
    have hsb := snd_bd E.ok I1.out.snd (u : Int)
    have HCT := Lib.hid (canTake_any u y0 z0 w2 P2.out hu E.cap ⟨hsb.1, hsb.2.1⟩ E.ok.ch)
    clear hp hp' hfirst hsb
    by_cases hrd : Rdy f' s0 ch ⟨(u : Int), y0, z0⟩
    rotate_left
    · have HN := Lib.hid (inP_next I1.out HX.out (fun i k' p q _ hi _ hpa hr => by
        obtain rfl := HUQ.out i p hi hpa
        rw [HP.out] at hi
        injection hi with hi
        subst hi
        exact absurd hr hrd))
      have HRD := Lib.hid hrd
      clear hrd
      go_wp2_with fail
      refine HCT.out.mono ?_
      intro e w3 hp
      obtain ⟨rfl, hb3⟩ := hp.no HRD.out
      have P3 := Lib.hid (P2.out.below hb3)
      have G3 := Lib.hid (grown_below G2.out hb3)
      clear hp hb3
      go_wp2_with fail
      go_roundw
      case rel => exact ⟨j + 1, f', by omega, by go_num, P3.out, G3.out, HN.out⟩
      case measure => simp [intOf]; omega
    have HRD := Lib.hid hrd
    clear hrd
    have k1 : (0 : Int) ≤ (k : Int) + 1 := by omega
    have k2 : (k : Int) + 1 ≤ (n' : Int) := by omega
    have k3 : (n' : Int) ≤ (c' : Int) := by omega
    have k4 : IntKind.i64.wrap ((k : Int) + 1) = (k : Int) + 1 := IntWalk.i64_in _ (by omega)
    have k5 : ((k : Int) + 1).toNat = k + 1 := by omega
    go_wp2_with fail
    refine HCT.out.mono ?_
    intro e w3 hp
    obtain ⟨rfl, hb3⟩ := hp.yes HRD.out
    have P3 := Lib.hid (P2.out.below hb3)
    have G3 := Lib.hid (grown_below G2.out hb3)
    have HB3 := Lib.hid (HB2.out.trans (hb3.mono HB2.out.size))
    have HGW3 := Lib.hid (cell_below' hb3 HGW2.out)
    have HSL3 := Lib.hid (HSL2.out.below hb3)
    clear hp hb3
    have k0 : (0 : Int) ≤ (k : Int) := by omega
    have HCM := Lib.hid (show ∀ (i : Nat) r, k < i → xs[i]? = some r → Come net s0 t0 ch r.a r.b from fun i r hi hr => by
      have hs1 := I1.out.snd (u : Int)
      have hrd := HRD.out
      unfold Rdy at hrd
      dsimp only at hrd
      rcases hs1 with h1 | ⟨_, h1⟩
      · omega
      · exact Come.ride (p := ⟨(u : Int), y0, z0⟩) h1 (List.mem_of_getElem? HX.out) HP.out hr hi hrd.2)
    by_cases hcap : c' = k + 1
    · have hn1 : n' = k + 1 := by omega
      subst hn1
      subst hcap
      have e0 : k + 1 - (k + 1) = 0 := by omega
      have HN := Lib.hid (inP_next I1.out HX.out (fun i k' p q hik hi hq hpa _ => by
        obtain rfl := HUQ.out i p hi hpa
        have := (List.getElem?_eq_some_iff.1 hq).1
        have := HSL3.out.len
        omega))
      go_wp2_with fail
      go_loopw [39] (fun i wr' => i = .int .i64 0 ∧ w3 = wr') (fun _ _ => 0)
      case atStart => exact ⟨rfl, rfl⟩
      case round =>
        obtain ⟨rfl, rfl⟩ := hrel
        go_wp2_with fail
        go_roundw
        case rel => exact ⟨j + 1, f', by omega, by go_num, P3.out, G3.out, HN.out⟩
        case measure => simp [intOf]; omega
    · have hcut := HSL0.out.cut (k := 3) (j := k + 1) (cap := c') hkn hnc
      rw [if_neg hcap, Option.map_some, addr_add'] at hcut
      have HCT2 := Lib.hid hcut
      have hcz : ¬ (c' : Int) = (k : Int) + 1 := by omega
      clear hcut
      obtain ⟨l, hl⟩ : ∃ l, n' - (k + 1) = l := ⟨_, rfl⟩
      rw [hl] at HCT2
      go_wp2_with fail
      obtain ⟨W3, hW3⟩ : ∃ W3, W3 = w3 := ⟨_, rfl⟩
      subst hW3
      go_loopw [39] (fun i wr' => ∃ (q : Nat) (f2 : Int → Int), q ≤ l ∧ i = .int .i64 q ∧ PtAt P T (.slice (some ⟨b, off, none⟩) m cN) s0 ch n c f2 wr' ∧ W3.grownBy wr' (some T) ∧ InP net s0 t0 ch n f u j f2 ∧ ∀ (i : Nat) r, k < i → i ≤ k + q → xs[i]? = some r → 0 ≤ f2 r.a ∧ f2 r.a ≤ r.b) (fun i _ => l - (intOf i).toNat)
      case atStart => exact ⟨0, f', by omega, rfl, P3.out, World.grownBy.refl _ _, I1.out, fun i r h1 h2 => by omega⟩
      case round =>
        obtain ⟨q, f2, hq, rfl, pt4, hg4, hin4, hdone⟩ := hrel
        have P4 := Lib.hid pt4
        have G4 := Lib.hid (grown_trans G3.out hg4)
        have I4 := Lib.hid hin4
        have HB4 := Lib.hid (below_T HB3.out hg4 E.base)
        have HDN := Lib.hid hdone
        have HG4 := Lib.hid hg4
        clear pt4 hg4 hin4 hdone
        by_cases hql : q < l
        · obtain ⟨b2, off2, x1, y1, z1, he, hbl2, hx1, hd1, f0, f1, f2'⟩ := at3 HCT2.out HB4.out hql
          simp only [Option.some.injEq, Addr.mk.injEq, and_true] at he
          obtain ⟨rfl, rfl⟩ := he
          rw [List.getElem?_drop] at hx1
          have HX1 := Lib.hid hx1
          have hst := stop_bd E.ok.net (List.mem_of_getElem? HX.out) hx1
          dsimp only at hst
          obtain ⟨x1, rfl⟩ : ∃ i : Nat, x1 = i := ⟨x1.toNat, by omega⟩
          have BX4 := Lib.hid (below_alloc (Below.refl wr.heap.size wr) (.cells #[.int .i64 (x1 : Int), .int .i64 y1, .int .i64 z1] 103))
          have HGW4 := Lib.hid (cell_below' BX4.out (show wr.cell? ⟨g, 0, none⟩ = some (.pointer (some ⟨P, 0, none⟩)) by rw [grown_cell HG4.out (World.block_lt_of_cell? _ _ HGW3.out) (fun e => by injection e with e; exact hgT e.symm)]; exact HGW3.out))
          have HSG := Lib.hid (HST.out _ f2 x1 y1 z1 (HB4.out.trans (BX4.out.mono HB4.out.size)) (P4.out.below BX4.out) I4.out.snd (Nat.le_trans I4.out.mu HM.out) (by omega) (by omega) (by omega) (HCM.out _ _ (by omega) hx1) HGW4.out)
          have HST4 := Lib.hid hst
          clear hx1 hd1 hst
          go_wp2_with fail
          refine HSG.out.mono ?_
          rintro e w5 ⟨rfl, f3, pt5, hg5, hc5⟩
          have P5 := Lib.hid pt5
          have G5 := Lib.hid (grown_trans HG4.out (grown_in BX4.out hg5))
          have HC5 := Lib.hid hc5
          clear pt5 hg5 hc5 HSG
          have HIN : Hid (InP net s0 t0 ch n f u j f3 ∧ Soon f3 f2 ∧ 0 ≤ f3 x1 ∧ f3 x1 ≤ y1) := by
            rcases HC5.out with ⟨rfl, h1, h2⟩ | ⟨h1, h2⟩
            · exact ⟨I4.out, Soon.refl _, h1, h2⟩
            · have h3 := HST4.out
              have h4 := inP_put (q := ⟨(x1 : Int), y1, z1⟩) I4.out (by dsimp only; omega) h1 h2 (by dsimp only; omega)
              exact ⟨h4.1, h4.2.2.2, h4.2.1, h4.2.2.1⟩
          have HDN2 : Hid (∀ (i : Nat) r, k < i → i ≤ k + (q + 1) → xs[i]? = some r → 0 ≤ f3 r.a ∧ f3 r.a ≤ r.b) := Lib.hid (fun i r h1 h2 h3 => by
            by_cases e : i = k + 1 + q
            · subst e
              have h4 := HX1.out
              rw [h3] at h4
              injection h4 with h4
              subst h4
              exact HIN.out.2.2
            · have h4 := HDN.out i r h1 (by omega) h3
              have h5 := HIN.out.2.1 r.a h4.1
              omega)
          go_wp2_with fail
          go_roundw
          case rel => exact ⟨q + 1, f3, by omega, by go_num, P5.out, G5.out, HIN.out.1, HDN2.out⟩
          case measure => simp [intOf]; omega
        · obtain rfl : q = l := by omega
          have HN := Lib.hid (inP_next I4.out HX.out (fun i k' p r hik hi hr hpa _ => by
            obtain rfl := HUQ.out i p hi hpa
            have h1 := (List.getElem?_eq_some_iff.1 hr).1
            have h2 := HSL3.out.len
            exact HDN.out k' r hik (by omega) hr))
          go_wp2_with fail
          go_roundw
          case rel => exact ⟨j + 1, f2, by omega, by go_num, P4.out, G4.out, HN.out⟩
          case measure => simp [intOf]; omega

set_option maxRecDepth 20000 in
set_option maxHeartbeats 1600000 in
theorem spread_go {W0 : World} {P T : Nat} {A : Option Addr} {m cN : Nat} {net : List (List T3)} {s0 t0 ch : Int} {n c : Nat} (E : PEnv W0 P T A m cN net s0 t0 ch n c) : ∀ M, SpreadGo W0 P T (.slice A m cN) net s0 t0 ch n c M := by
  intro M
  induction M using Nat.strongRecOn with
  | _ M ih =>
    intro W f u hb pt hs hm hu
    have hTL := pt.tl
    have BX := Lib.hid (below_alloc (Below.refl W.heap.size W) (.cells #[.pointer (some ⟨P, 0, none⟩)] 161))
    have HRG := Lib.hid (rides_go (g := W.heap.size) E (by omega) (step_go E (by omega) ih) (W.alloc (.cells #[.pointer (some ⟨P, 0, none⟩)] 161)) f u (hb.trans (BX.out.mono hb.size)) (pt.below BX.out) hs hm hu (by simp))
    clear hb pt hs hm hu hTL ih
    go_enter Tryz.func96, Tryz.ntmps96
    go_wp2_with fail
    refine HRG.out.mono ?_
    rintro e w2 ⟨rfl, f', pt2, hg2, hsp⟩
    have HE := Lib.hid (And.intro pt2 (And.intro (grown_in BX.out hg2) hsp))
    clear pt2 hg2 hsp HRG
    go_wp2_with fail
    (try simp only [Exit.inBlock, Exit.then])
    refine bodyPost_ret (results_none rfl _ _ _) rfl ?_
    exact ⟨rfl, f', HE.out.1, HE.out.2.1, HE.out.2.2⟩
end Go.Proofs.YtgjllminidlolaaGreatDoor
