/- Contracts: PostTable and PostArrive of the reference. -/
import Derived.Test.YtgjllminidlolaaGreatDoorMQPWalkG
import Derived.Test.YtgjllminidlolaaGreatDoorMQPWalkF
set_option linter.unusedVariables false
namespace Go.Proofs.YtgjllminidlolaaGreatDoor
open Go.RowKit

set_option maxRecDepth 20000 in
set_option maxHeartbeats 1600000 in
theorem l7Ok_any (A : Option Addr) (n : Int) (m cap : Nat) (net : List (List T3)) (s0 t0 ch : Int) (w : World) (h : NetS w A m net) (hm : m ≤ 16777216) (hl : NetLen net) (h1 : -1000000 ≤ n) (h2 : n ≤ 1000000) :
    Calls Tryz.prog 97 #[.int .i64 n, .slice A m cap, .int .i64 s0, .int .i64 t0, .int .i64 ch] w (OnlyB (PostQ n net s0 t0 ch) w) := by
  have HNV := Lib.hid (specNetValid_any A n m cap net w h hm hl h1 h2)
  have e1 : IntKind.i64.wrap (n - 1) = n - 1 := IntWalk.i64_in _ (by omega)
  clear h hm hl
  by_cases hN : NetOk n net
  rotate_left
  · have HN := Lib.hid hN
    clear hN
    go_enter Tryz.func97, Tryz.ntmps97
    go_wp2_with fail
    refine HNV.out.mono ?_
    intro e w1 hp
    obtain ⟨rfl, hb1⟩ := hp.no HN.out
    have HB1 := Lib.hid hb1
    clear hp hb1
    go_wp2_with fail
    go_ret
    exact onlyB_false (fun h => HN.out h.1) HB1.out
  have HN := Lib.hid hN
  clear hN
  by_cases k1 : 0 ≤ s0 ∧ s0 ≤ n - 1
  rotate_left
  · have HQ := Lib.hid (show ¬ PostQ n net s0 t0 ch from fun h => k1 (by have := h.2.1; omega))
    go_enter Tryz.func97, Tryz.ntmps97
    go_wp2_with fail
    refine HNV.out.mono ?_
    intro e w1 hp
    obtain ⟨rfl, hb1⟩ := hp.yes HN.out
    have HB1 := Lib.hid hb1
    clear hp hb1
    go_wp2_with fail
    refine (l6In_any _ _ _ _).mono ?_
    intro e w2 hp
    obtain ⟨rfl, rfl⟩ := hp.no k1
    clear hp
    go_wp2_with fail
    go_ret
    exact onlyB_false HQ.out HB1.out
  by_cases k2 : 0 ≤ t0 ∧ t0 ≤ 10000
  rotate_left
  · have HQ := Lib.hid (show ¬ PostQ n net s0 t0 ch from fun h => k2 h.2.2.1)
    go_enter Tryz.func97, Tryz.ntmps97
    go_wp2_with fail
    refine HNV.out.mono ?_
    intro e w1 hp
    obtain ⟨rfl, hb1⟩ := hp.yes HN.out
    have HB1 := Lib.hid hb1
    clear hp hb1
    go_wp2_with fail
    refine (l6In_any _ _ _ _).mono ?_
    intro e w2 hp
    obtain ⟨rfl, rfl⟩ := hp.yes k1
    clear hp
    go_wp2_with fail
    refine (l6In_any _ _ _ _).mono ?_
    intro e w2 hp
    obtain ⟨rfl, rfl⟩ := hp.no k2
    clear hp
    go_wp2_with fail
    go_ret
    exact onlyB_false HQ.out HB1.out
  have HQ := Lib.hid (fun (h : 0 ≤ ch ∧ ch ≤ 300) => (show PostQ n net s0 t0 ch from ⟨HN.out, by omega, k2, h⟩))
  go_enter Tryz.func97, Tryz.ntmps97
  go_wp2_with fail
  refine HNV.out.mono ?_
  intro e w1 hp
  obtain ⟨rfl, hb1⟩ := hp.yes HN.out
  have HB1 := Lib.hid hb1
  clear hp hb1
  go_wp2_with fail
  refine (l6In_any _ _ _ _).mono ?_
  intro e w2 hp
  obtain ⟨rfl, rfl⟩ := hp.yes k1
  clear hp
  go_wp2_with fail
  refine (l6In_any _ _ _ _).mono ?_
  intro e w2 hp
  obtain ⟨rfl, rfl⟩ := hp.yes k2
  clear hp
  go_wp2_with fail
  refine (l6In_any _ _ _ _).mono ?_
  intro e w2 hp
  by_cases k3 : 0 ≤ ch ∧ ch ≤ 300
  · obtain ⟨rfl, rfl⟩ := hp.yes k3
    have H3 := Lib.hid k3
    clear hp k3
    go_wp2_with fail
    go_ret
    exact onlyB_true (HQ.out H3.out) HB1.out
  · obtain ⟨rfl, rfl⟩ := hp.no k3
    have H3 := Lib.hid k3
    clear hp k3
    go_wp2_with fail
    go_ret
    exact onlyB_false (fun h => H3.out h.2.2.2) HB1.out

/-- A table has been returned, or none: the reference. -/
def TableRetS (n : Int) (net : List (List T3)) (s0 t0 ch : Int) (w : World) (e : Ending) (w' : World) : Prop :=
  Below w.heap.size w w' ∧ ((PostQ n net s0 t0 ch ∧ ∃ T c, e = .returned (.tuple #[.slice (some ⟨T, 0, none⟩) n.toNat c, .bool true]) ∧ ∀ k : Nat, k < n.toNat → w'.cell? ⟨T, k, none⟩ = some (.int .i64 (tblV net s0 t0 ch k))) ∨ (¬ PostQ n net s0 t0 ch ∧ ∃ v, e = .returned (.tuple #[v, .bool false])))
set_option maxRecDepth 20000 in
set_option maxHeartbeats 1600000 in
theorem specPostTable_any (A : Option Addr) (n : Int) (m cap : Nat) (net : List (List T3)) (s0 t0 ch : Int) (w : World) (h : NetS w A m net) (hm : m ≤ 16777216) (hl : NetLen net) (h1 : -1000000 ≤ n) (h2 : n ≤ 1000000) :
    Calls Tryz.prog 61 #[.int .i64 n, .slice A m cap, .int .i64 s0, .int .i64 t0, .int .i64 ch] w (TableRetS n net s0 t0 ch w) := by
  have HOK := Lib.hid (l7Ok_any A n m cap net s0 t0 ch w h hm hl h1 h2)
  have H := Lib.hid h
  clear h hm hl
  by_cases hq : PostQ n net s0 t0 ch
  · have HQ := Lib.hid hq
    have hn1 := hq.1.1
    have hs0 := hq.2.1
    obtain ⟨n, rfl⟩ : ∃ k : Nat, n = k := ⟨n.toNat, by omega⟩
    obtain ⟨s0, rfl⟩ : ∃ k : Nat, s0 = k := ⟨s0.toNat, by omega⟩
    have HTB := Lib.hid (rounds_table HQ.out.ok (n + 1) (Nat.le_succ n))
    have HLT := Lib.hid (fun W hW => l7Table_any A n m cap net s0 t0 ch W (H.out.below hW) HQ.out.ok)
    clear hq hs0 H
    go_enter Tryz.func61, Tryz.ntmps61
    go_wp2_with fail
    refine HOK.out.mono ?_
    intro e w1 hp
    obtain ⟨rfl, hb1⟩ := hp.yes HQ.out
    have HB1 := Lib.hid hb1
    clear hp hb1
    go_wp2_with fail
    refine (HLT.out _ HB1.out).mono ?_
    rintro e w2 ⟨hb2, T, c, rfl, htb, hT⟩
    have HB2 := Lib.hid (below_trans HB1.out hb2)
    have TB := Lib.hid htb
    clear hb2 htb hT HLT HOK
    go_wp2_with fail
    go_ret2
    exact ⟨HB2.out, .inl ⟨HQ.out, T, c, rfl, fun k hk => by rw [TB.out.at_ k hk, tblV_eq HQ.out.ok HTB.out]⟩⟩
  · have HQ := Lib.hid hq
    clear hq
    go_enter Tryz.func61, Tryz.ntmps61
    go_wp2_with fail
    refine HOK.out.mono ?_
    intro e w1 hp
    obtain ⟨rfl, hb1⟩ := hp.no HQ.out
    have HB1 := Lib.hid hb1
    clear hp hb1
    go_wp2_with fail
    go_ret2
    exact ⟨below_alloc HB1.out _, .inr ⟨HQ.out, _, rfl⟩⟩
set_option maxRecDepth 20000 in
set_option maxHeartbeats 1600000 in
theorem specPostArrive_any (A : Option Addr) (n : Int) (m cap : Nat) (net : List (List T3)) (s0 tw t0 ch : Int) (w : World) (h : NetS w A m net) (hm : m ≤ 16777216) (hl : NetLen net) (h1 : -1000000 ≤ n) (h2 : n ≤ 1000000) :
    Calls Tryz.prog 29 #[.int .i64 n, .slice A m cap, .int .i64 s0, .int .i64 tw, .int .i64 t0, .int .i64 ch] w (Only (.int .i64 (postV n net s0 tw t0 ch)) w) := by
  have HPT := Lib.hid (specPostTable_any A n m cap net s0 t0 ch w h hm hl h1 h2)
  have HV1 := Lib.hid (fun (hq : PostQ n net s0 t0 ch) (ht : 0 ≤ tw ∧ tw < n) => postV_yes hq ht)
  have HV2 := Lib.hid (fun (h : ¬ (PostQ n net s0 t0 ch ∧ 0 ≤ tw ∧ tw < n)) => postV_no h)
  have e1 : IntKind.i64.wrap (n - 1) = n - 1 := IntWalk.i64_in _ (by omega)
  clear h hm hl
  generalize postV n net s0 tw t0 ch = v at *
  go_enter Tryz.func29, Tryz.ntmps29
  go_wp2_with fail
  refine HPT.out.mono ?_
  rintro e w1 ⟨hb1, ⟨hq, T, c, rfl, hc⟩ | ⟨hq, v1, rfl⟩⟩
  · have HB1 := Lib.hid hb1
    by_cases ht : 0 ≤ tw ∧ tw ≤ n - 1
    · have HE := Lib.hid (HV1.out hq (by omega))
      obtain ⟨tw, rfl⟩ : ∃ k : Nat, tw = k := ⟨tw.toNat, by omega⟩
      have hcc := hc tw (by omega)
      have hn0 : (tw : Int) < (n.toNat : Int) := by omega
      clear hb1 hq hc HPT
      generalize tblV net s0 t0 ch tw = u at *
      go_wp2_with fail
      refine (l6In_any _ _ _ _).mono ?_
      intro e w2 hp
      obtain ⟨rfl, rfl⟩ := hp.yes ht
      clear hp
      go_wp2_with fail
      go_ret
      exact ⟨ret_int HE.out.symm, HB1.out⟩
    · have HE := Lib.hid (HV2.out (fun h => ht (by omega)))
      clear hb1 hq hc HPT
      go_wp2_with fail
      refine (l6In_any _ _ _ _).mono ?_
      intro e w2 hp
      obtain ⟨rfl, rfl⟩ := hp.no ht
      clear hp
      go_wp2_with fail
      go_ret
      exact ⟨ret_int HE.out.symm, HB1.out⟩
  · have HE := Lib.hid (HV2.out (fun h => hq h.1))
    have HB1 := Lib.hid hb1
    clear hb1 hq HPT
    go_wp2_with fail
    go_ret
    exact ⟨ret_int HE.out.symm, HB1.out⟩
end Go.Proofs.YtgjllminidlolaaGreatDoor
