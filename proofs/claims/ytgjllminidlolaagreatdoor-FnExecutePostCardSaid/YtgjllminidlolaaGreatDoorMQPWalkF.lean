/- Contracts: newPostTable, PostTable, PostArrive of the program. -/
import Derived.Test.YtgjllminidlolaaGreatDoorMQPWalkC
set_option linter.unusedVariables false
namespace Go.Proofs.YtgjllminidlolaaGreatDoor
open Go.RowKit

/-- A table with the first town alone. -/
def FreshP (n : Int) (V : Value) (net : List (List T3)) (s0 t0 ch : Int) (w : World) (e : Ending) (w' : World) : Prop :=
  Below w.heap.size w w' ∧ ((PostQ n net s0 t0 ch ∧ ∃ P T, e = .returned (.pointer (some ⟨P, 0, none⟩)) ∧ PtAt P T V s0 ch n.toNat n.toNat (tstart s0 t0) w' ∧ w.heap.size ≤ P ∧ w.heap.size ≤ T) ∨ (¬ PostQ n net s0 t0 ch ∧ e = .returned (.pointer none)))
theorem pt_new {w : World} {T n : Nat} {N : Value} {s0 ch : Int} (hg : w.heap[T]? = some (.cells (List.replicate n (Value.int .i64 (-1))).toArray 3 (0, 0))) (ty : TypeId) :
    PtAt w.heap.size T N s0 ch n n (fun _ => -1) (w.alloc (.cells #[N, .int .i64 s0, .int .i64 ch, .slice (some ⟨T, 0, none⟩) n n] ty)) := by
  have hT : T < w.heap.size := by
    rcases Nat.lt_or_ge T w.heap.size with h | h
    · exact h
    · rw [Array.getElem?_eq_none h] at hg; cases hg
  have hz : (w.alloc (.cells #[N, .int .i64 s0, .int .i64 ch, .slice (some ⟨T, 0, none⟩) n n] ty)).heap.size = w.heap.size + 1 := by simp
  have hp : ∀ j, (w.alloc (.cells #[N, .int .i64 s0, .int .i64 ch, .slice (some ⟨T, 0, none⟩) n n] ty)).cell? ⟨w.heap.size, j, none⟩ = (#[N, .int .i64 s0, .int .i64 ch, .slice (some ⟨T, 0, none⟩) n n] : Array Value)[j]? := fun j => cell_of_row _ _ j _ ty (0, 0) (heap_alloc_new w _)
  refine ⟨by omega, by rw [hz]; omega, by rw [hz]; omega, hp 0, hp 1, hp 2, hp 3, fun k hk => ?_, fun j => ?_⟩
  · rw [World.cell?_alloc_lt _ _ _ hT, cell_of_row w T k _ 3 (0, 0) hg, List.getElem?_toArray, List.getElem?_replicate, if_pos hk]
  · rw [(below_alloc (Below.refl w.heap.size w) (.cells #[N, .int .i64 s0, .int .i64 ch, .slice (some ⟨T, 0, none⟩) n n] ty)).frozen hT]
    exact frozen_of_row w T j _ 3 hg
set_option maxRecDepth 20000 in
set_option maxHeartbeats 1600000 in
theorem newPostTable_any (A : Option Addr) (n : Int) (m cap : Nat) (net : List (List T3)) (s0 t0 ch : Int) (w : World) (h : NetS w A m net) (hm : m ≤ 16777216) (hl : NetLen net) :
    Calls Tryz.prog 95 #[.int .i64 n, .slice A m cap, .int .i64 s0, .int .i64 t0, .int .i64 ch] w (FreshP n (.slice A m cap) net s0 t0 ch w) := by
  have HNV := Lib.hid (implNetValid_any A n m cap net w h hm hl)
  clear h hm hl
  by_cases hN : NetOk n net
  rotate_left
  · have HN := Lib.hid hN
    clear hN
    go_enter Tryz.func95, Tryz.ntmps95
    go_wp2_with fail
    refine HNV.out.mono ?_
    intro e w1 hp
    obtain ⟨rfl, hb1⟩ := hp.no HN.out
    have HB1 := Lib.hid hb1
    clear hp hb1
    go_wp2_with fail
    go_ret
    exact ⟨HB1.out, .inr ⟨fun h => HN.out h.1, rfl⟩⟩
  have HN := Lib.hid hN
  clear hN
  by_cases h1 : 0 ≤ s0 ∧ s0 < n
  rotate_left
  · go_enter Tryz.func95, Tryz.ntmps95
    go_wp2_with fail
    refine HNV.out.mono ?_
    intro e w1 hp
    obtain ⟨rfl, hb1⟩ := hp.yes HN.out
    have HB1 := Lib.hid hb1
    clear hp hb1
    go_wp2_with fail
    refine (townValid_any _ _ _).mono ?_
    intro e w2 hp
    obtain ⟨rfl, rfl⟩ := hp.no h1
    have H1 := Lib.hid h1
    clear hp h1
    go_wp2_with fail
    go_ret
    exact ⟨HB1.out, .inr ⟨fun h => H1.out h.2.1, rfl⟩⟩
  by_cases h2 : 0 ≤ t0 ∧ t0 ≤ 10000
  rotate_left
  · go_enter Tryz.func95, Tryz.ntmps95
    go_wp2_with fail
    refine HNV.out.mono ?_
    intro e w1 hp
    obtain ⟨rfl, hb1⟩ := hp.yes HN.out
    have HB1 := Lib.hid hb1
    clear hp hb1
    go_wp2_with fail
    refine (townValid_any _ _ _).mono ?_
    intro e w2 hp
    obtain ⟨rfl, rfl⟩ := hp.yes h1
    clear hp
    go_wp2_with fail
    refine (timeValid_any _ _).mono ?_
    intro e w2 hp
    obtain ⟨rfl, rfl⟩ := hp.no h2
    have H2 := Lib.hid h2
    clear hp h2
    go_wp2_with fail
    go_ret
    exact ⟨HB1.out, .inr ⟨fun h => H2.out h.2.2.1, rfl⟩⟩
  by_cases h3 : 0 ≤ ch ∧ ch ≤ 300
  rotate_left
  · go_enter Tryz.func95, Tryz.ntmps95
    go_wp2_with fail
    refine HNV.out.mono ?_
    intro e w1 hp
    obtain ⟨rfl, hb1⟩ := hp.yes HN.out
    have HB1 := Lib.hid hb1
    clear hp hb1
    go_wp2_with fail
    refine (townValid_any _ _ _).mono ?_
    intro e w2 hp
    obtain ⟨rfl, rfl⟩ := hp.yes h1
    clear hp
    go_wp2_with fail
    refine (timeValid_any _ _).mono ?_
    intro e w2 hp
    obtain ⟨rfl, rfl⟩ := hp.yes h2
    clear hp
    go_wp2_with fail
    refine (delayValid_any _ _).mono ?_
    intro e w2 hp
    obtain ⟨rfl, rfl⟩ := hp.no h3
    have H3 := Lib.hid h3
    clear hp h3
    go_wp2_with fail
    go_ret
    exact ⟨HB1.out, .inr ⟨fun h => H3.out h.2.2.2, rfl⟩⟩
  have HQ := Lib.hid (show PostQ n net s0 t0 ch from ⟨HN.out, h1, h2, h3⟩)
  have hn8 := HN.out.2.1
  obtain ⟨n, rfl⟩ : ∃ k : Nat, n = k := ⟨n.toNat, by omega⟩
  obtain ⟨s0, rfl⟩ : ∃ k : Nat, s0 = k := ⟨s0.toNat, by omega⟩
  have hs0n : s0 < n := by omega
  go_enter Tryz.func95, Tryz.ntmps95
  go_wp2_with fail
  refine HNV.out.mono ?_
  intro e w1 hp
  obtain ⟨rfl, hb1⟩ := hp.yes HN.out
  have HB1 := Lib.hid hb1
  clear hp hb1
  go_wp2_with fail
  refine (townValid_any _ _ _).mono ?_
  intro e w2 hp
  obtain ⟨rfl, rfl⟩ := hp.yes h1
  clear hp
  go_wp2_with fail
  refine (timeValid_any _ _).mono ?_
  intro e w2 hp
  obtain ⟨rfl, rfl⟩ := hp.yes h2
  clear hp
  go_wp2_with fail
  refine (delayValid_any _ _).mono ?_
  intro e w2 hp
  obtain ⟨rfl, rfl⟩ := hp.yes h3
  clear hp
  have HS1 := Lib.hid (slE_new (k := 1) (enc := encI) w1 3 encI_len [-1] #[.int .i64 (-1)] rfl (by simp [maxLen]) (n := 1) rfl (g := w1.heap.size) rfl)
  have HB2 := Lib.hid (below_alloc HB1.out (.cells #[.int .i64 (-1)] 3))
  have hz2 : (w1.alloc (.cells #[.int .i64 (-1)] 3)).heap.size = w1.heap.size + 1 := by simp
  have HZ2 := Lib.hid hz2
  clear hz2
  go_wp2_with fail
  refine (repeat_any _ 1 n _ HS1.out (by omega) (by omega)).mono ?_
  rintro e w3 ⟨rfl, hg3, hb3⟩
  have HB3 := Lib.hid (below_trans HB2.out hb3)
  rw [HZ2.out] at hg3 ⊢
  have hsz1 := HB1.out.size
  have HPN := Lib.hid ((pt_new (N := .slice A m cap) (s0 := s0) (ch := ch) hg3 164).put s0 hs0n t0)
  have HPM := Lib.hid (pt_new (N := .slice A m cap) (s0 := s0) (ch := ch) hg3 164)
  have hgf := HPM.out.frz s0
  have hgc := HPM.out.at_ s0 hs0n
  have hgp := HPM.out.tms
  have HTW := Lib.hid (show w.heap.size ≤ w1.heap.size + 1 ∧ w.heap.size ≤ w3.heap.size from ⟨by omega, HB3.out.size⟩)
  have HBL := Lib.hid ((below_alloc HB3.out (.cells #[.slice A m cap, .int .i64 s0, .int .i64 ch, .slice (some ⟨w1.heap.size + 1, 0, none⟩) n n] 164)).setCell (p := ⟨w1.heap.size + 1, s0, none⟩) (by show w.heap.size ≤ w1.heap.size + 1; omega) (.int .i64 t0))
  clear hg3 hb3
  go_wp2_with fail
  go_ret
  exact ⟨HBL.out, .inl ⟨HQ.out, _, _, rfl, HPN.out, HTW.out.2, HTW.out.1⟩⟩

/-- A table has been returned, or none. -/
def TableRet (n : Int) (net : List (List T3)) (s0 t0 ch : Int) (w : World) (e : Ending) (w' : World) : Prop :=
  Below w.heap.size w w' ∧ ((PostQ n net s0 t0 ch ∧ ∃ T, e = .returned (.tuple #[.slice (some ⟨T, 0, none⟩) n.toNat n.toNat, .bool true]) ∧ ∀ k : Nat, k < n.toNat → w'.cell? ⟨T, k, none⟩ = some (.int .i64 (tblV net s0 t0 ch k))) ∨ (¬ PostQ n net s0 t0 ch ∧ ∃ v, e = .returned (.tuple #[v, .bool false])))
set_option maxRecDepth 20000 in
set_option maxHeartbeats 1600000 in
theorem implPostTable_any (A : Option Addr) (n : Int) (m cap : Nat) (net : List (List T3)) (s0 t0 ch : Int) (w : World) (h : NetS w A m net) (hm : m ≤ 16777216) (hl : NetLen net) :
    Calls Tryz.prog 59 #[.int .i64 n, .slice A m cap, .int .i64 s0, .int .i64 t0, .int .i64 ch] w (TableRet n net s0 t0 ch w) := by
  have HNP := Lib.hid (newPostTable_any A n m cap net s0 t0 ch w h hm hl)
  have H := Lib.hid h
  clear h hm hl
  go_enter Tryz.func59, Tryz.ntmps59
  go_wp2_with fail
  refine HNP.out.mono ?_
  rintro e w1 ⟨hb1, ⟨hq, P, T, rfl, hpt, hP, hT⟩ | ⟨hq, rfl⟩⟩
  · have hn1 := hq.1.1
    have hs0 := hq.2.1
    obtain ⟨n, rfl⟩ : ∃ k : Nat, n = k := ⟨n.toNat, by omega⟩
    obtain ⟨s0, rfl⟩ : ∃ k : Nat, s0 = k := ⟨s0.toNat, by omega⟩
    rw [Int.toNat_natCast] at hpt
    have HQ := Lib.hid hq
    have E : PEnv w P T A m cap net s0 t0 ch n n := ⟨hq.ok, H.out, hT, Nat.le_refl _⟩
    have HSG := Lib.hid (spread_go E (muP n (tstart s0 t0)) w1 (tstart s0 t0) s0 hb1 hpt (snd_start_p hq.ok) (Nat.le_refl _) (by omega))
    have HB1 := Lib.hid hb1
    have HT := Lib.hid hT
    clear hb1 hq hpt hP hT hs0 HNP E H
    go_wp2_with fail
    refine HSG.out.mono ?_
    rintro e w2 ⟨rfl, f', hpt, hg2, hsp⟩
    have HT2 := Lib.hid (spr_table HQ.out.ok hsp)
    have HPT := Lib.hid hpt
    have HB2 := Lib.hid (below_T HB1.out hg2 HT.out)
    have hgp := hpt.tms
    clear hpt hg2 hsp HSG
    go_wp2_with fail
    go_ret2
    exact ⟨HB2.out, .inl ⟨HQ.out, T, rfl, fun k hk => by rw [HPT.out.at_ k hk, tblV_eq HQ.out.ok HT2.out]⟩⟩
  · have HB1 := Lib.hid hb1
    have HQ := Lib.hid hq
    clear hb1 hq HNP
    go_wp2_with fail
    go_ret2
    exact ⟨below_alloc HB1.out _, .inr ⟨HQ.out, _, rfl⟩⟩
set_option maxRecDepth 20000 in
set_option maxHeartbeats 1600000 in
theorem implPostArrive_any (A : Option Addr) (n : Int) (m cap : Nat) (net : List (List T3)) (s0 tw t0 ch : Int) (w : World) (h : NetS w A m net) (hm : m ≤ 16777216) (hl : NetLen net) :
    Calls Tryz.prog 28 #[.int .i64 n, .slice A m cap, .int .i64 s0, .int .i64 tw, .int .i64 t0, .int .i64 ch] w (Only (.int .i64 (postV n net s0 tw t0 ch)) w) := by
  have HPT := Lib.hid (implPostTable_any A n m cap net s0 t0 ch w h hm hl)
  have HV1 := Lib.hid (fun (hq : PostQ n net s0 t0 ch) (ht : 0 ≤ tw ∧ tw < n) => postV_yes hq ht)
  have HV2 := Lib.hid (fun (h : ¬ (PostQ n net s0 t0 ch ∧ 0 ≤ tw ∧ tw < n)) => postV_no h)
  clear h hm hl
  generalize postV n net s0 tw t0 ch = v at *
  go_enter Tryz.func28, Tryz.ntmps28
  go_wp2_with fail
  refine HPT.out.mono ?_
  rintro e w1 ⟨hb1, ⟨hq, T, rfl, hc⟩ | ⟨hq, v1, rfl⟩⟩
  · have HB1 := Lib.hid hb1
    by_cases ht : 0 ≤ tw ∧ tw < n
    · have HE := Lib.hid (HV1.out hq ht)
      obtain ⟨tw, rfl⟩ : ∃ k : Nat, tw = k := ⟨tw.toNat, by omega⟩
      have hcc := hc tw (by omega)
      have hn0 : (tw : Int) < (n.toNat : Int) := by omega
      clear hb1 hq hc HPT
      generalize tblV net s0 t0 ch tw = u at *
      go_wp2_with fail
      refine (townValid_any _ _ _).mono ?_
      intro e w2 hp
      obtain ⟨rfl, rfl⟩ := hp.yes ht
      clear hp
      go_wp2_with fail
      go_ret
      exact ⟨ret_int HE.out.symm, HB1.out⟩
    · have HE := Lib.hid (HV2.out (fun h => ht h.2))
      clear hb1 hq hc HPT
      go_wp2_with fail
      refine (townValid_any _ _ _).mono ?_
      intro e w2 hp
      obtain ⟨rfl, rfl⟩ := hp.no ht
      clear hp
      go_wp2_with fail
      go_ret
      exact ⟨ret_int HE.out.symm, HB1.out⟩
  · have HE := Lib.hid (HV2.out (fun h => hq h.1))
    have HB1 := Lib.hid hb1
    clear hb1 hq HPT
    go_wp2_with fail
    go_ret
    exact ⟨ret_int HE.out.symm, HB1.out⟩
end Go.Proofs.YtgjllminidlolaaGreatDoor
