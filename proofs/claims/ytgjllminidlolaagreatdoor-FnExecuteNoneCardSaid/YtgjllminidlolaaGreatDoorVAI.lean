/- Texts of mine in one: RWalkI RWalkJ RWalkK RWalkL SortP. -/
import Derived.Test.YtgjllminidlolaaGreatDoorVAH
import Derived.Test.YtgjllminidlolaaGreatDoorVAG
import Derived.Deep.LoopGhost
/- Contracts: container/heap.down. -/
set_option linter.unusedVariables false
namespace Go.Proofs.YtgjllminidlolaaGreatDoor
open Go.RowKit

/-- The first n of n + 1 have been put in order. -/
def OrderedD (base g n c : Nat) (f : Nat → P2) (w : World) (w' : World) : Prop :=
  ∃ f', HeapF n f' ∧ (∀ y, bagF n f' y ↔ bagF n f y) ∧ f' n = f n ∧ OwnE 2 enc2 150 base w' (.slice (some ⟨g, 0, none⟩) (n + 1) c) (lstF (n + 1) f') ∧ w.grownBy w' (some g)

set_option maxRecDepth 20000 in
set_option maxHeartbeats 6400000 in
theorem down_any (base hb g n c : Nat) (f : Nat → P2) (w : World) (hh : HdrS hb g (n + 1) c w) (ho : OwnE 2 enc2 150 base w (.slice (some ⟨g, 0, none⟩) (n + 1) c) (lstF (n + 1) f)) (hn : n ≤ 1000000) (hdn : DnI n f 0) :
    Calls Tryz.prog 117 #[.iface 148 (.pointer (some ⟨hb, 0, none⟩)), .int .i64 0, .int .i64 n] w (fun e w' => (∃ b, e = .returned (.bool b)) ∧ OrderedD base g n c f w w') := by
  have HH := Lib.hid hh
  have HO := Lib.hid ho
  have HU := Lib.hid hdn
  clear hh ho hdn
  go_enter Tryz.func117, Tryz.ntmps117
  go_wp2_with fail
  go_loopw [7, 8, 9, 10] (fun i _ _ _ wr => ∃ (k : Nat) (f' : Nat → P2), k ≤ n ∧ i = .int .i64 k ∧ DnI n f' k ∧ (∀ y, bagF n f' y ↔ bagF n f y) ∧ f' n = f n ∧ OwnE 2 enc2 150 base wr (.slice (some ⟨g, 0, none⟩) (n + 1) c) (lstF (n + 1) f') ∧ w.grownBy wr (some g)) (fun i _ _ _ _ => n - (intOf i).toNat)
  case atStart => exact ⟨0, f, by omega, rfl, HU.out, fun y => Iff.rfl, rfl, HO.out, World.grownBy.refl _ _⟩
  case round =>
    obtain ⟨k, f', hk, rfl, hup, hbag, hlast, hown, hgr⟩ := hrel
    have HU := Lib.hid hup
    have HBG := Lib.hid hbag
    have HLA := Lib.hid hlast
    have HO := Lib.hid hown
    have HG := Lib.hid hgr
    obtain ⟨q0, q1, q2, q3⟩ := HH.out.grown hgr
    clear hup hbag hlast hown hgr
    by_cases hn1 : n ≤ 2 * k + 1
    · have hq : (n : Int) ≤ 2 * (k : Int) + 1 := by omega
      go_wp2_with fail
      go_ret
      exact ⟨⟨_, rfl⟩, f', dn_leaf HU.out hn1, HBG.out, HLA.out, HO.out, HG.out⟩
    obtain ⟨a, ha1, ha2, ha3⟩ : ∃ a : Nat, a ≤ 2 * k + 1 ∧ 2 * k + 1 ≤ a ∧ (2 * (k : Int) + 1) = (a : Int) := ⟨2 * k + 1, by omega, by omega, by omega⟩
    obtain ⟨b, hb1, hb2, hb3⟩ : ∃ b : Nat, b ≤ a + 1 ∧ a + 1 ≤ b ∧ ((a : Int) + 1) = (b : Int) := ⟨a + 1, by omega, by omega, by omega⟩
    have i1 : ¬ (n : Int) ≤ (a : Int) := by omega
    have i2 : ¬ (a : Int) < 0 := by omega
    clear hn1
    have mL := mLess q0
    by_cases hj2 : b < n
    · have i3 : (b : Int) < (n : Int) := by omega
      by_cases hl1 : (f' b).d < (f' a).d
      · have HL1 := Lib.hid hl1
        clear hl1
        go_wp2_with fail
        refine (thLess_any base g (n + 1) c b a f' wr HO.out (by omega) (by omega)).mono ?_
        intro e w4 hp
        obtain ⟨rfl, hb4⟩ := hp.yes (by have := HL1.out; omega)
        have HO4 := Lib.hid (HO.out.below hb4 (Nat.le_refl _))
        have HG4 := Lib.hid (grown_andB HG.out hb4)
        clear hp hb4 mL
        obtain ⟨p0, p1, p2, p3⟩ := HH.out.grown HG4.out
        have mL := mLess p0
        have HMN := Lib.hid (show ∀ t, 0 < t → t < n → (t - 1) / 2 = k → (f' (b)).d ≤ (f' t).d from by
          intro t h1 h2 h3
          rcases (show t = a ∨ t = b by omega) with rfl | rfl
          · have := HL1.out; omega
          · exact Int.le_refl _)
        by_cases hl2 : (f' (b)).d < (f' k).d
        · have HL2 := Lib.hid hl2
          clear hl2
          go_wp2_with fail
          refine (thLess_any base g (n + 1) c (b) k f' w4 HO4.out (by omega) (by omega)).mono ?_
          intro e w5 hp
          obtain ⟨rfl, hb5⟩ := hp.yes (by have := HL2.out; omega)
          have HO5 := Lib.hid (HO4.out.below hb5 (Nat.le_refl _))
          have HG5 := Lib.hid (grown_andB HG4.out hb5)
          obtain ⟨r0, r1, r2, r3⟩ := HH.out.grown HG5.out
          have mS := mSwap r0
          have HST := Lib.hid (dn_step (j := b) HU.out (by omega) (by omega) (by omega) HMN.out (by have := HL2.out; omega))
          clear hp hb5 mL
          go_wp2_with fail
          refine (thSwap_any base g (n + 1) c k (b) f' w5 HO5.out (by omega) (by omega)).mono ?_
          rintro e w6 ⟨rfl, hown6, hg6⟩
          have HO6 := Lib.hid hown6
          have HG6 := Lib.hid (grown_trans HG5.out hg6)
          clear hown6 hg6 mS r0 r1
          go_wp2_with fail
          go_roundw
          case rel => exact ⟨b, _, by omega, by go_num, HST.out, fun y => (bag_swap (by omega) (by omega) y).trans (HBG.out y), by rw [swF_o _ (by omega) (by omega)]; exact HLA.out, HO6.out, HG6.out⟩
          case measure => simp [intOf]; omega
        · have HL2 := Lib.hid hl2
          clear hl2
          go_wp2_with fail
          refine (thLess_any base g (n + 1) c (b) k f' w4 HO4.out (by omega) (by omega)).mono ?_
          intro e w5 hp
          obtain ⟨rfl, hb5⟩ := hp.no (by have := HL2.out; omega)
          have HO5 := Lib.hid (HO4.out.below hb5 (Nat.le_refl _))
          have HG5 := Lib.hid (grown_andB HG4.out hb5)
          clear hp hb5 mL
          go_wp2_with fail
          go_ret
          exact ⟨⟨_, rfl⟩, f', dn_stop (j := b) HU.out HMN.out (by have := HL2.out; omega), HBG.out, HLA.out, HO5.out, HG5.out⟩
      · have HL1 := Lib.hid hl1
        clear hl1
        go_wp2_with fail
        refine (thLess_any base g (n + 1) c b a f' wr HO.out (by omega) (by omega)).mono ?_
        intro e w4 hp
        obtain ⟨rfl, hb4⟩ := hp.no (by have := HL1.out; omega)
        have HO4 := Lib.hid (HO.out.below hb4 (Nat.le_refl _))
        have HG4 := Lib.hid (grown_andB HG.out hb4)
        clear hp hb4 mL
        obtain ⟨p0, p1, p2, p3⟩ := HH.out.grown HG4.out
        have mL := mLess p0
        have HMN := Lib.hid (show ∀ t, 0 < t → t < n → (t - 1) / 2 = k → (f' (a)).d ≤ (f' t).d from by
          intro t h1 h2 h3
          rcases (show t = a ∨ t = b by omega) with rfl | rfl
          · exact Int.le_refl _
          · have := HL1.out; omega)
        by_cases hl2 : (f' (a)).d < (f' k).d
        · have HL2 := Lib.hid hl2
          clear hl2
          go_wp2_with fail
          refine (thLess_any base g (n + 1) c (a) k f' w4 HO4.out (by omega) (by omega)).mono ?_
          intro e w5 hp
          obtain ⟨rfl, hb5⟩ := hp.yes (by have := HL2.out; omega)
          have HO5 := Lib.hid (HO4.out.below hb5 (Nat.le_refl _))
          have HG5 := Lib.hid (grown_andB HG4.out hb5)
          obtain ⟨r0, r1, r2, r3⟩ := HH.out.grown HG5.out
          have mS := mSwap r0
          have HST := Lib.hid (dn_step (j := a) HU.out (by omega) (by omega) (by omega) HMN.out (by have := HL2.out; omega))
          clear hp hb5 mL
          go_wp2_with fail
          refine (thSwap_any base g (n + 1) c k (a) f' w5 HO5.out (by omega) (by omega)).mono ?_
          rintro e w6 ⟨rfl, hown6, hg6⟩
          have HO6 := Lib.hid hown6
          have HG6 := Lib.hid (grown_trans HG5.out hg6)
          clear hown6 hg6 mS r0 r1
          go_wp2_with fail
          go_roundw
          case rel => exact ⟨a, _, by omega, by go_num, HST.out, fun y => (bag_swap (by omega) (by omega) y).trans (HBG.out y), by rw [swF_o _ (by omega) (by omega)]; exact HLA.out, HO6.out, HG6.out⟩
          case measure => simp [intOf]; omega
        · have HL2 := Lib.hid hl2
          clear hl2
          go_wp2_with fail
          refine (thLess_any base g (n + 1) c (a) k f' w4 HO4.out (by omega) (by omega)).mono ?_
          intro e w5 hp
          obtain ⟨rfl, hb5⟩ := hp.no (by have := HL2.out; omega)
          have HO5 := Lib.hid (HO4.out.below hb5 (Nat.le_refl _))
          have HG5 := Lib.hid (grown_andB HG4.out hb5)
          clear hp hb5 mL
          go_wp2_with fail
          go_ret
          exact ⟨⟨_, rfl⟩, f', dn_stop (j := a) HU.out HMN.out (by have := HL2.out; omega), HBG.out, HLA.out, HO5.out, HG5.out⟩
    · have i3 : ¬ (b : Int) < (n : Int) := by omega
      have HMN := Lib.hid (show ∀ t, 0 < t → t < n → (t - 1) / 2 = k → (f' (a)).d ≤ (f' t).d from by
        intro t h1 h2 h3
        rcases (show t = a ∨ t = b by omega) with rfl | rfl
        · exact Int.le_refl _
        · omega)
      by_cases hl2 : (f' (a)).d < (f' k).d
      · have HL2 := Lib.hid hl2
        clear hl2
        go_wp2_with fail
        refine (thLess_any base g (n + 1) c (a) k f' wr HO.out (by omega) (by omega)).mono ?_
        intro e w5 hp
        obtain ⟨rfl, hb5⟩ := hp.yes (by have := HL2.out; omega)
        have HO5 := Lib.hid (HO.out.below hb5 (Nat.le_refl _))
        have HG5 := Lib.hid (grown_andB HG.out hb5)
        obtain ⟨r0, r1, r2, r3⟩ := HH.out.grown HG5.out
        have mS := mSwap r0
        have HST := Lib.hid (dn_step (j := a) HU.out (by omega) (by omega) (by omega) HMN.out (by have := HL2.out; omega))
        clear hp hb5 mL
        go_wp2_with fail
        refine (thSwap_any base g (n + 1) c k (a) f' w5 HO5.out (by omega) (by omega)).mono ?_
        rintro e w6 ⟨rfl, hown6, hg6⟩
        have HO6 := Lib.hid hown6
        have HG6 := Lib.hid (grown_trans HG5.out hg6)
        clear hown6 hg6 mS r0 r1
        go_wp2_with fail
        go_roundw
        case rel => exact ⟨a, _, by omega, by go_num, HST.out, fun y => (bag_swap (by omega) (by omega) y).trans (HBG.out y), by rw [swF_o _ (by omega) (by omega)]; exact HLA.out, HO6.out, HG6.out⟩
        case measure => simp [intOf]; omega
      · have HL2 := Lib.hid hl2
        clear hl2
        go_wp2_with fail
        refine (thLess_any base g (n + 1) c (a) k f' wr HO.out (by omega) (by omega)).mono ?_
        intro e w5 hp
        obtain ⟨rfl, hb5⟩ := hp.no (by have := HL2.out; omega)
        have HO5 := Lib.hid (HO.out.below hb5 (Nat.le_refl _))
        have HG5 := Lib.hid (grown_andB HG.out hb5)
        clear hp hb5 mL
        go_wp2_with fail
        go_ret
        exact ⟨⟨_, rfl⟩, f', dn_stop (j := a) HU.out HMN.out (by have := HL2.out; omega), HBG.out, HLA.out, HO5.out, HG5.out⟩
end Go.Proofs.YtgjllminidlolaaGreatDoor
/- Contracts: container/heap.Push and Pop on the heap of towns. -/
set_option linter.unusedVariables false
namespace Go.Proofs.YtgjllminidlolaaGreatDoor
open Go.RowKit

theorem lst_bag {n : Nat} {f : Nat → P2} {y : P2} : y ∈ lstF n f ↔ bagF n f y := by
  unfold lstF bagF
  constructor
  · intro h
    obtain ⟨k, hk, rfl⟩ := List.mem_map.1 h
    exact ⟨k, List.mem_range.1 hk, rfl⟩
  · rintro ⟨k, hk, rfl⟩
    exact List.mem_map.2 ⟨k, List.mem_range.2 hk, rfl⟩
/-- What a heap may turn. -/
def Own1 (base hb : Nat) (av : Nat → Prop) (i : Nat) : Prop := i = hb ∨ (base ≤ i ∧ ¬ av i)
theorem keeps_h {base hb g : Nat} {av : Nat → Prop} {w w' : World} (h : HKeep hb g w w') (hg : base ≤ g ∧ ¬ av g) : Keeps (Own1 base hb av) w w' :=
  ⟨h.1, h.2.1, h.2.2.1, h.2.2.2.1, fun k hk hs => h.2.2.2.2 k hk (fun e => hs (.inl e)) (fun e => hs (.inr (e ▸ hg)))⟩
theorem keeps_g {base hb g : Nat} {av : Nat → Prop} {w w' : World} (h : w.grownBy w' (some g)) (hg : base ≤ g ∧ ¬ av g) : Keeps (Own1 base hb av) w w' :=
  ⟨h.os, h.tape, h.output, h.size, fun k hk hs => h.block k hk (fun e => hs (.inr (by rw [Option.some.inj e]; exact hg)))⟩
/-- How Push ends. -/
def PushedH (base hb : Nat) (av : Nat → Prop) (n : Nat) (f : Nat → P2) (p : P2) (w : World) (e : Ending) (w' : World) : Prop :=
  e = .returned (.tuple #[]) ∧ ∃ f', HeapF (n + 1) f' ∧ (∀ y, y ∈ lstF (n + 1) f' ↔ y = p ∨ y ∈ lstF n f) ∧ HeapS base hb av (n + 1) f' w' ∧ Keeps (Own1 base hb av) w w'
def withP (n : Nat) (f : Nat → P2) (p : P2) (k : Nat) : P2 := if k < n then f k else p
theorem withP_lt {n k : Nat} (f : Nat → P2) (p : P2) (h : k < n) : withP n f p k = f k := by unfold withP; rw [if_pos h]
theorem withP_n (n : Nat) (f : Nat → P2) (p : P2) : withP n f p n = p := by unfold withP; rw [if_neg (by omega)]
theorem withP_bag {n : Nat} {f : Nat → P2} {p y : P2} : bagF (n + 1) (withP n f p) y ↔ y = p ∨ bagF n f y := by
  constructor
  · rintro ⟨k, hk, rfl⟩
    by_cases e : k < n
    · rw [withP_lt f p e]; exact .inr ⟨k, e, rfl⟩
    · obtain rfl : k = n := by omega
      exact .inl (withP_n _ _ _)
  · rintro (rfl | ⟨k, hk, rfl⟩)
    · exact ⟨n, by omega, withP_n _ _ _⟩
    · exact ⟨k, by omega, withP_lt f p hk⟩

set_option maxRecDepth 20000 in
set_option maxHeartbeats 3200000 in
theorem hPush_any (base hb n : Nat) (av : Nat → Prop) (f : Nat → P2) (p : P2) (w : World) (hS : HeapS base hb av n f w) (hF : HeapF n f) (ha : ∀ j, w.heap.size ≤ j → ¬ av j) (hn : n ≤ 900000) :
    Calls Tryz.prog 91 #[.iface 148 (.pointer (some ⟨hb, 0, none⟩)), .iface 150 (.agg #[.int .i64 p.t, .int .i64 p.d])] w (PushedH base hb av n f p w) := by
  obtain ⟨g, c, h1, h2, h3, h4, h5, h6, h7⟩ := hS
  have hgl := h5.lt g rfl
  have hcg : lstF n f = lstF n (withP n f p) := lstF_congr fun k hk => (withP_lt f p hk).symm
  rw [hcg] at h5
  have HF := Lib.hid (heap_push hF (withP n f p) (fun k hk => withP_lt f p hk))
  have HA := Lib.hid ha
  have HP := Lib.hid (thPush_any base hb g n c (withP n f p) p w h1 h2 h3 (by omega) h5 h6 (by omega) (withP_n n f p))
  clear h1 h2 h5 hF ha hcg
  go_enter Tryz.func91, Tryz.ntmps91
  go_wp2_with fail
  refine HP.out.mono ?_
  rintro e w2 ⟨rfl, g', c', r0, r1, hown, hg', hne, hk⟩
  have HO := Lib.hid hown
  have HK := Lib.hid hk
  have hgn : base ≤ g' ∧ ¬ av g' := by
    rcases hg' with rfl | hg'
    · exact ⟨hgl.1, h7⟩
    · exact ⟨by omega, HA.out g' hg'⟩
  have HGN := Lib.hid hgn
  have mL := mLen r0
  have e1 : ((n + 1 : Nat) : Int) - 1 = (n : Int) := by omega
  have hsz := hk.2.2.2.1
  have HD := Lib.hid (show HdrS hb g' (n + 1) c' w2 from ⟨r0, r1, by omega, hne⟩)
  clear hown hk hgn
  go_wp2_with fail
  refine (thLen_any (.int .i64 0) _ (n + 1) c' w2).mono ?_
  rintro e w3 ⟨rfl, rfl⟩
  clear mL r0 r1
  go_wp2_with fail
  refine (up_any base hb g' (n + 1) c' n (withP n f p) w2 HD.out HO.out (by omega) (by omega) HF.out).mono ?_
  rintro e w4 ⟨rfl, f', hF', hbag, hown', hgr⟩
  have HF' := Lib.hid hF'
  have HB' := Lib.hid hbag
  have HO' := Lib.hid hown'
  have HG' := Lib.hid hgr
  clear hF' hbag hown' hgr
  go_wp2_with fail
  go_end0
  obtain ⟨d1, d2, d3, d4⟩ := HD.out.grown HG'.out
  exact ⟨rfl, f', HF'.out, fun y => by rw [lst_bag, lst_bag, HB'.out y, withP_bag], ⟨g', c', d1, d2, d3, h4, HO'.out, hne, HGN.out.2⟩,
    (keeps_h HK.out ⟨hgl.1, h7⟩).trans (keeps_g HG'.out HGN.out) (fun i _ h => h)⟩

/-- How Pop ends. -/
def PoppedH (base hb : Nat) (av : Nat → Prop) (n : Nat) (f : Nat → P2) (w : World) (e : Ending) (w' : World) : Prop :=
  ∃ f', e = .returned (.iface 150 (.agg #[.int .i64 (f 0).t, .int .i64 (f 0).d])) ∧ HeapF n f' ∧ Popped (lstF (n + 1) f) (lstF n f') (f 0) ∧ HeapS base hb av n f' w' ∧ Keeps (Own1 base hb av) w w'

set_option maxRecDepth 20000 in
set_option maxHeartbeats 3200000 in
theorem hPop_any (base hb n : Nat) (av : Nat → Prop) (f : Nat → P2) (w : World) (hS : HeapS base hb av (n + 1) f w) (hF : HeapF (n + 1) f) (hn : n ≤ 900000) :
    Calls Tryz.prog 90 #[.iface 148 (.pointer (some ⟨hb, 0, none⟩))] w (PoppedH base hb av n f w) := by
  obtain ⟨g, c, h1, h2, h3, h4, h5, h6, h7⟩ := hS
  have hgl := h5.lt g rfl
  have HF := Lib.hid (heap_pop hF)
  have HRT := Lib.hid (fun k (hk : k < n + 1) => heap_root hF k k (Nat.le_refl _) hk)
  have HD := Lib.hid (show HdrS hb g (n + 1) c w from ⟨h1, h2, h3, h6⟩)
  have HO := Lib.hid h5
  have mL := mLen h1
  have mS := mSwap h1
  have e1 : ((n + 1 : Nat) : Int) - 1 = (n : Int) := by omega
  clear h1 h2 h5 hF
  go_enter Tryz.func90, Tryz.ntmps90
  go_wp2_with fail
  refine (thLen_any (.int .i64 0) _ (n + 1) c w).mono ?_
  rintro e w1 ⟨rfl, rfl⟩
  clear mL
  go_wp2_with fail
  refine (thSwap_any base g (n + 1) c 0 n f w HO.out (by omega) (by omega)).mono ?_
  rintro e w2 ⟨rfl, hown2, hg2⟩
  have HO2 := Lib.hid hown2
  have HG2 := Lib.hid hg2
  clear hown2 hg2 mS
  go_wp2_with fail
  refine (down_any base hb g n c (swF f 0 n) w2 (HD.out.grown HG2.out) HO2.out (by omega) HF.out).mono ?_
  rintro e w3 ⟨⟨b, rfl⟩, f', hF', hbag, hlast, hown3, hg3⟩
  have HF' := Lib.hid hF'
  have HB' := Lib.hid hbag
  have HL' := Lib.hid hlast
  have HO3 := Lib.hid hown3
  have HG3 := Lib.hid (grown_trans HG2.out hg3)
  obtain ⟨r0, r1, r2, r3⟩ := HD.out.grown HG3.out
  have HP := Lib.hid (thPop_any base hb g n c f' w3 r0 r1 r2 hown3 h6 (by omega))
  clear hF' hbag hlast hown3 hg3 r0 r1
  go_wp2_with fail
  refine HP.out.mono ?_
  rintro e w4 ⟨rfl, s0, s1, hown4, hk4⟩
  have HO4 := Lib.hid hown4
  have HK4 := Lib.hid hk4
  have HC4 := Lib.hid (And.intro s0 s1)
  clear hown4 hk4 s0 s1
  go_wp2_with fail
  go_ret
  have hfn : f' n = f 0 := by rw [HL'.out, swF_r]
  have hmem : ∀ y, bagF (n + 1) f y ↔ y = f 0 ∨ bagF n f' y := fun y => by
    rw [HB'.out y, ← bag_swap (i := 0) (j := n) (f := f) (by omega) (by omega) y]
    constructor
    · rintro ⟨k, hk, rfl⟩
      by_cases e : k < n
      · exact .inr ⟨k, e, rfl⟩
      · obtain rfl : k = n := by omega
        exact .inl (swF_r f 0 k)
    · rintro (rfl | ⟨k, hk, rfl⟩)
      · exact ⟨n, by omega, swF_r f 0 n⟩
      · exact ⟨k, by omega, rfl⟩
  refine ⟨f', by rw [hfn]; rfl, HF'.out, ⟨?_, fun y hy => ?_, fun y hy => ?_, fun y hy => ?_, by rw [lstF_len, lstF_len]⟩, ⟨g, c, HC4.out.1, HC4.out.2, Nat.lt_of_lt_of_le r2 HK4.out.2.2.2.1, h4, HO4.out, h6, h7⟩, (keeps_g HG3.out ⟨hgl.1, h7⟩).trans (keeps_h HK4.out ⟨hgl.1, h7⟩) (fun i _ h => h)⟩
  · rw [lst_bag]; exact (hmem _).2 (.inl rfl)
  · rw [lst_bag] at hy ⊢; exact (hmem _).2 (.inr hy)
  · rw [lst_bag] at hy
    rcases (hmem y).1 hy with h | h
    · exact .inl h
    · exact .inr (lst_bag.2 h)
  · rw [lst_bag] at hy
    obtain ⟨k, hk, rfl⟩ := hy
    exact HRT.out k hk
end Go.Proofs.YtgjllminidlolaaGreatDoor
/- Contracts: roads of the program: the distances. -/
set_option linter.unusedVariables false
namespace Go.Proofs.YtgjllminidlolaaGreatDoor
open Go.RowKit Go.MapKept

theorem HeapS.grown {base hb n r : Nat} {av : Nat → Prop} {f : Nat → P2} {W W' : World} (h : HeapS base hb av n f W) (hg : W.grownBy W' (some r)) (hr : r ≠ hb) (hr2 : r < base ∨ av r) : HeapS base hb av n f W' := by
  obtain ⟨g, c, h1, h2, h3, h4, h5, h6, h7⟩ := h
  have hgl := (h5.lt g rfl).1
  have hne : g ≠ r := by
    rintro rfl
    rcases hr2 with h | h
    · omega
    · exact h7 h
  have hn : some r ≠ some hb := fun e => hr (Option.some.inj e)
  exact ⟨g, c, by rw [grown_cell hg h3 hn]; exact h1, by rw [grown_frozen' hg h3 hn]; exact h2, Nat.lt_of_lt_of_le h3 hg.size, h4, h5.apart hg (.inr (fun e => hne (Option.some.inj e))), h6, h7⟩
theorem HeapS.below {base hb n : Nat} {av : Nat → Prop} {f : Nat → P2} {W W' : World} (h : HeapS base hb av n f W) (hB : Below W.heap.size W W') : HeapS base hb av n f W' := by
  obtain ⟨g, c, h1, h2, h3, h4, h5, h6, h7⟩ := h
  exact ⟨g, c, by rw [hB.cell (by exact h3)]; exact h1, by rw [hB.frozen (by exact h3)]; exact h2, Nat.lt_of_lt_of_le h3 hB.size, h4, h5.below hB (Nat.le_refl _), h6, h7⟩
theorem HeapS.more {base hb n : Nat} {av av' : Nat → Prop} {f : Nat → P2} {W : World} (h : HeapS base hb av n f W) (ha : ∀ i, i < W.heap.size → av' i → av i) : HeapS base hb av' n f W := by
  obtain ⟨g, c, h1, h2, h3, h4, h5, h6, h7⟩ := h
  exact ⟨g, c, h1, h2, h3, h4, h5, h6, fun e => h7 (ha g (h5.lt g rfl).2 e)⟩
theorem HeapS.lt2 {base hb n : Nat} {av : Nat → Prop} {f : Nat → P2} {W : World} (h : HeapS base hb av n f W) : hb < W.heap.size ∧ base ≤ hb := by
  obtain ⟨g, c, _, _, h3, h4, _⟩ := h
  exact ⟨h3, h4⟩
theorem HeapS.grownB {base hb n r : Nat} {av : Nat → Prop} {f : Nat → P2} {W W1 W2 W3 : World} (h : HeapS base hb av n f W) (hB : Below W.heap.size W W1) (hg : W1.grownBy W2 (some r)) (hr : r ≠ hb) (hr2 : r < base) (hB3 : Below W2.heap.size W2 W3) : HeapS base hb av n f W3 :=
  ((h.below hB).grown hg hr (.inl hr2)).below hB3
theorem HeapS.hdr {base hb n : Nat} {av : Nat → Prop} {f : Nat → P2} {W : World} (h : HeapS base hb av n f W) : ∃ A c, W.cell? ⟨hb, 0, none⟩ = some (.slice A n c) := by
  obtain ⟨g, c, h1, _⟩ := h
  exact ⟨_, c, h1⟩
/-- The distances found so far. -/
def FarIs (l : List (Int × Int)) (F : Int → Option Int) : Prop := (l.map (·.1)).Nodup ∧ ∀ t d, F t = some d ↔ (t, d) ∈ l
theorem farIs_none {l : List (Int × Int)} {F : Int → Option Int} (h : FarIs l F) {t : Int} (ht : F t = none) : t ∉ l.map (·.1) := fun hm => by
  obtain ⟨⟨t', d⟩, hd, rfl⟩ := List.mem_map.1 hm
  have := (h.2 t' d).2 hd
  dsimp only at ht
  rw [ht] at this
  cases this
theorem farIs_put {l : List (Int × Int)} {F : Int → Option Int} (h : FarIs l F) {t : Int} (d : Int) (ht : F t = none) : FarIs (l ++ [(t, d)]) (updF F t d) := by
  have hn := farIs_none h ht
  refine ⟨?_, fun u e => ?_⟩
  · rw [List.map_append, List.map_singleton]
    refine List.nodup_append.2 ⟨h.1, by simp, fun x hx y hy => ?_⟩
    rw [List.mem_singleton] at hy
    subst hy
    rintro rfl
    exact hn hx
  · rw [List.mem_append, List.mem_singleton]
    by_cases e1 : u = t
    · subst e1
      rw [updF_self]
      constructor
      · intro h1
        injection h1 with h1
        subst h1
        exact .inr rfl
      · rintro (h1 | h1)
        · exact absurd (List.mem_map.2 ⟨_, h1, rfl⟩) hn
        · injection h1 with _ h1
          rw [h1]
    · rw [updF_ne e1, h.2 u e]
      constructor
      · exact .inl
      · rintro (h1 | h1)
        · exact h1
        · injection h1 with h1 _
          exact absurd h1 e1
def noneC (n : Nat) (F : Int → Option Int) : Nat := (List.range n).countP fun (t : Nat) => (F t).isNone
theorem noneC_put {n : Nat} {F : Int → Option Int} {t d : Int} (ht : F t = none) (h0 : 0 ≤ t ∧ t < n) : noneC n (updF F t d) < noneC n F := by
  refine countP_lt _ _ _ (fun x _ hx => ?_) ⟨t.toNat, List.mem_range.2 (by omega), ?_, ?_⟩
  · by_cases e : (x : Int) = t
    · rw [e, updF_self] at hx; cases hx
    · rw [updF_ne e] at hx; exact hx
  · rw [Int.toNat_of_nonneg h0.1, ht]; rfl
  · rw [Int.toNat_of_nonneg h0.1, updF_self]; rfl
theorem d_mono {xs : List T3} {s : Int} {far : Int → Option Int} {H : List P2} {tt : Int} {V V' : Int → Prop} (h : DInv xs s far H tt V) (hv : ∀ v, V' v → V v) : DInv xs s far H tt V' :=
  ⟨h.a1, h.b1, h.c1, fun u du v w hu he hV => h.e1 u du v w hu he (fun e => hv v (hV e)), h.s1⟩
/-- Ahead of a round. -/
def DistI (n bm fb hb : Nat) (xs : List T3) (s : Int) (w : World) (k : Nat) (W : World) : Prop :=
  ∃ (l : List (Int × Int)) (F : Int → Option Int) (m : Nat) (f : Nat → P2) (tt : Int), MapG W fb (valL l) ∧ FarIs l F ∧ HeapS (fb + 1) hb (fun _ => False) m f W ∧ HeapF m f ∧ DInv xs s F (lstF m f) tt (fun _ => True) ∧
    GraphAt n bm xs W ∧ Below w.heap.size w W ∧ 18 * noneC n F + m ≤ k ∧ k ≤ 150 ∧ ∀ y ∈ lstF m f, y.d + 100 * (k : Int) ≤ 20000
theorem below_of_grown0 {a b : World} (h : a.grownBy b none) : Below a.heap.size a b := ⟨h.os, h.tape, h.output, h.size, fun i hi => h.block i hi (by simp)⟩
/-- How many entries are still to come. -/
def restC (len : Nat) (seen : List Nat) : Nat := (List.range len).countP fun i => decide (i ∉ seen)
theorem restC_next {len : Nat} {seen : List Nat} {i : Nat} (hi : i < len) (hs : i ∉ seen) : restC len (seen ++ [i]) < restC len seen := by
  refine countP_lt _ _ _ (fun x _ hx => ?_) ⟨i, List.mem_range.2 hi, by simpa using hs, by simp⟩
  simp only [decide_eq_true_eq, List.mem_append, List.mem_singleton, not_or] at hx ⊢
  exact hx.1
theorem restC_nil (len : Nat) : restC len [] = len := by
  unfold restC
  simp
/-- While a town's roads are gone through. -/
def NextI (n bm fb hb r rat : Nat) (xs : List T3) (s : Int) (w : World) (l : List (Int × Int)) (F : Int → Option Int) (t : Nat) (d : Int) (m0 K : Nat) (k : Nat) (W : World) : Prop :=
  ∃ (seen : List Nat) (m : Nat) (f : Nat → P2), IterG W r (bm + 1 + t) (valL (nbr xs t)).length seen ∧ k = restC (valL (nbr xs t)).length seen ∧ MapG W fb (valL l) ∧ HeapS (fb + 1) hb (fun i => i = rat ∨ i = r) m f W ∧ HeapF m f ∧
    DInv xs s F (lstF m f) t (fun v => ∃ i w', i ∈ seen ∧ (nbr xs t)[i]? = some (v, w')) ∧ GraphAt n bm xs W ∧ Below w.heap.size w W ∧ m + k ≤ m0 + (valL (nbr xs t)).length ∧ (∀ y ∈ lstF m f, y.d + 100 * (K : Int) ≤ 20099) ∧
    W.cell? ⟨rat, 0, none⟩ = some (.int .i64 t) ∧ W.cell? ⟨rat, 1, none⟩ = some (.int .i64 d)
/-- The distances have been found. -/
def DistRet (n bm : Nat) (xs : List T3) (s : Int) (w : World) (e : Ending) (w' : World) : Prop :=
  ∃ fb l, e = .returned (.map (some fb)) ∧ MapG w' fb (valL l) ∧ (l.map (·.1)).Nodup ∧ (∀ t d, (t, d) ∈ l ↔ IsFar xs s t d) ∧ (∀ t, t ∉ l.map (·.1) → ∀ d, ¬ Way xs s t d) ∧ w.heap.size ≤ fb ∧ Below w.heap.size w w' ∧ GraphAt n bm xs w'
theorem dist_end {n bm fb : Nat} {xs : List T3} {s : Int} {w W : World} {l : List (Int × Int)} {F : Int → Option Int} {f : Nat → P2} {tt : Int} (hm : MapG W fb (valL l)) (hF : FarIs l F) (hD : DInv xs s F (lstF 0 f) tt (fun _ => True)) (hg : GraphAt n bm xs W) (hb' : Below w.heap.size w W) (hfb : w.heap.size ≤ fb) :
    DistRet n bm xs s w (.returned (.map (some fb))) W :=
  ⟨fb, l, rfl, hm, hF.1, fun t d => by rw [← hF.2 t d]; exact (d_end hD t d).1, fun t ht d hd => by
    have h1 : F t = none := by
      cases hf : F t with
      | none => rfl
      | some d' => exact absurd (List.mem_map.2 ⟨_, (hF.2 t d').1 hf, rfl⟩) ht
    exact (d_end hD t 0).2.1 h1 d hd, hfb, hb', hg⟩

theorem box2_new (w : World) (x y : Value) (T : TypeId) : (w.alloc (.cells #[x, y] T)).cell? ⟨w.heap.size, 0, none⟩ = some x ∧ (w.alloc (.cells #[x, y] T)).cell? ⟨w.heap.size, 1, none⟩ = some y := by
  have hr : ∀ j, (w.alloc (.cells #[x, y] T)).cell? ⟨w.heap.size, j, none⟩ = (#[x, y] : Array Value)[j]? := fun j => cell_of_row _ _ j _ T (0, 0) (heap_alloc_new w _)
  exact ⟨hr 0, hr 1⟩
theorem box2_keeps {w w' : World} {g : Nat} {x y : Value} (h : w.cell? ⟨g, 0, none⟩ = some x ∧ w.cell? ⟨g, 1, none⟩ = some y) (hb : w'.heap[g]? = w.heap[g]?) : w'.cell? ⟨g, 0, none⟩ = some x ∧ w'.cell? ⟨g, 1, none⟩ = some y := by
  unfold World.cell? at *
  simp only at *
  rw [hb]
  exact h
theorem seen_next {l : List (Int × Int)} {seen : List Nat} {i : Nat} {x u v : Int} (hu : l[i]? = some (x, u)) (h : ∃ i' w', i' ∈ seen ++ [i] ∧ l[i']? = some (v, w')) : (∃ i' w', i' ∈ seen ∧ l[i']? = some (v, w')) ∨ v = x := by
  obtain ⟨i', w', h1, h2⟩ := h
  rcases List.mem_append.1 h1 with h1 | h1
  · exact .inl ⟨i', w', h1, h2⟩
  · rw [List.mem_singleton] at h1
    subst h1
    rw [hu] at h2
    injection h2 with h2
    injection h2 with h2 _
    exact .inr h2.symm
theorem valL_len (l : List (Int × Int)) : (valL l).length = l.length := by simp [valL]
theorem valL_at {l : List (Int × Int)} {i : Nat} {x : Int} {v : Value} (h : (valL l)[i]? = some (x, v)) : ∃ u, v = .int .i64 u ∧ l[i]? = some (x, u) := by
  unfold valL at h
  rw [List.getElem?_map] at h
  cases hp : l[i]? with
  | none => rw [hp] at h; cases h
  | some p =>
    rw [hp] at h
    obtain ⟨a, b⟩ := p
    simp only [Option.map_some, Option.some.injEq, Prod.mk.injEq] at h
    exact ⟨b, h.2.symm, by rw [h.1]⟩
theorem dist_start {n bm s : Nat} {xs : List T3} {w : World} (hg : GraphAt n bm xs w) (hn : n ≤ 8) :
    DistI n bm w.heap.size (w.heap.size + 1 + 1) xs s w 145 (((w.alloc (.map #[] 0)).alloc (.cells #[.int .i64 (s : Int), .int .i64 0] 150)).alloc (.cells #[.slice (some ⟨w.heap.size + 1, 0, none⟩) 1 1] 152)) := by
  have hs1 : (w.alloc (.map #[] 0)).heap.size = w.heap.size + 1 := by show (w.heap.push _).size = _; rw [Array.size_push]
  have hs2 : ((w.alloc (.map #[] 0)).alloc (.cells #[.int .i64 (s : Int), .int .i64 0] 150)).heap.size = w.heap.size + 1 + 1 := by show ((w.heap.push _).push _).size = _; rw [Array.size_push, Array.size_push]
  have hs3 : (((w.alloc (.map #[] 0)).alloc (.cells #[.int .i64 (s : Int), .int .i64 0] 150)).alloc (.cells #[.slice (some ⟨w.heap.size + 1, 0, none⟩) 1 1] 152)).heap.size = w.heap.size + 1 + 1 + 1 := by show (((w.heap.push _).push _).push _).size = _; rw [Array.size_push, Array.size_push, Array.size_push]
  have hB : Below w.heap.size w (((w.alloc (.map #[] 0)).alloc (.cells #[.int .i64 (s : Int), .int .i64 0] 150)).alloc (.cells #[.slice (some ⟨w.heap.size + 1, 0, none⟩) 1 1] 152)) := below_alloc (below_alloc (below_alloc (Below.refl _ _) _) _) _
  have ho := (own_new' (enc := enc2) (k := 2) (w.alloc (.map #[] 0)) 150 (w.heap.size + 1) (by omega) enc2_len [⟨s, 0⟩] #[.int .i64 (s : Int), .int .i64 0] rfl (by simp [maxLen]) (n := 1) rfl (g := w.heap.size + 1) hs1.symm).alloc (.cells #[.slice (some ⟨w.heap.size + 1, 0, none⟩) 1 1] 152)
  have hc : (((w.alloc (.map #[] 0)).alloc (.cells #[.int .i64 (s : Int), .int .i64 0] 150)).alloc (.cells #[.slice (some ⟨w.heap.size + 1, 0, none⟩) 1 1] 152)).cell? ⟨w.heap.size + 1 + 1, 0, none⟩ = some (.slice (some ⟨w.heap.size + 1, 0, none⟩) 1 1) := by
    have := cell_of_row (((w.alloc (.map #[] 0)).alloc (.cells #[.int .i64 (s : Int), .int .i64 0] 150)).alloc (.cells #[.slice (some ⟨w.heap.size + 1, 0, none⟩) 1 1] 152)) _ 0 _ 152 (0, 0) (heap_alloc_new ((w.alloc (.map #[] 0)).alloc (.cells #[.int .i64 (s : Int), .int .i64 0] 150)) _)
    rw [hs2] at this
    exact this
  have hf : (((w.alloc (.map #[] 0)).alloc (.cells #[.int .i64 (s : Int), .int .i64 0] 150)).alloc (.cells #[.slice (some ⟨w.heap.size + 1, 0, none⟩) 1 1] 152)).frozen? ⟨w.heap.size + 1 + 1, 0, none⟩ = false := by
    have := frozen_of_row (((w.alloc (.map #[] 0)).alloc (.cells #[.int .i64 (s : Int), .int .i64 0] 150)).alloc (.cells #[.slice (some ⟨w.heap.size + 1, 0, none⟩) 1 1] 152)) (w.heap.size + 1 + 1) 0 #[.slice (some ⟨w.heap.size + 1, 0, none⟩) 1 1] 152 (by
      have := heap_alloc_new ((w.alloc (.map #[] 0)).alloc (.cells #[.int .i64 (s : Int), .int .i64 0] 150)) (.cells #[.slice (some ⟨w.heap.size + 1, 0, none⟩) 1 1] 152)
      rw [hs2] at this
      exact this)
    exact this
  refine ⟨[], fun _ => none, 1, fun _ => ⟨s, 0⟩, 0, ((MapG.made w).alloc _).alloc _, ⟨by simp, fun t d => by simp⟩, ⟨w.heap.size + 1, 1, hc, hf, by omega, by omega, ho, by omega, fun h => h⟩, fun k h1 h2 => by omega, d_start xs s 0 _, hg.below hB, hB, ?_, by omega, fun y hy => ?_⟩
  · have : noneC n (fun _ => none) = n := by unfold noneC; simp
    rw [this]
    omega
  · simp [lstF] at hy
    subst hy
    simp

set_option maxRecDepth 20000 in
set_option maxHeartbeats 6400000 in
theorem distances_any (n bm s : Nat) (xs : List T3) (w : World) (hg : GraphAt n bm xs w) (hok : RoadOk n xs) (hs : s < n) :
    Calls Tryz.prog 52 #[.map (some bm), .int .i64 s] w (DistRet n bm xs s w) := by
  have HG := Lib.hid hg
  have HOK := Lib.hid hok
  have hn8 := hok.2.1
  have hbm : bm < w.heap.size := hg.1.lt
  clear hg hok
  have hmm := @run_makeMap Tryz.prog
  have hta := asTown
  go_enter Tryz.func52, Tryz.ntmps52
  go_wp2_with fail
  go_loopg [7, 8, 9, 10, 11, 12, 13] 145 (fun k _ _ _ _ _ _ _ wr => DistI n bm w.heap.size (w.heap.size + 1 + 1) xs s w k wr)
  case atStart => exact dist_start HG.out (by omega)
  case round =>
    obtain ⟨l, F, m, f, tt, hm, hF, hH, hHF, hD, hgr, hbr, hk, hk2, hy⟩ := hrel
    obtain ⟨A, c, hhdr⟩ := hH.hdr
    have HM := Lib.hid hm
    have HFI := Lib.hid hF
    have HH := Lib.hid hH
    have HHF := Lib.hid hHF
    have HD := Lib.hid hD
    have HB := Lib.hid hbr
    have HY := Lib.hid hy
    have HK := Lib.hid hk
    clear hm hF hH hHF hD hgr hbr hy hk
    by_cases hm0 : m = 0
    · subst hm0
      go_wp2_with fail
      refine (thLen_any (.int .i64 0) A 0 c wr).mono ?_
      rintro e w1 ⟨rfl, rfl⟩
      go_wp2_with fail
      go_ret
      exact dist_end HM.out HFI.out HD.out (HG.out.below HB.out) HB.out (Nat.le_refl _)
    obtain ⟨m, rfl⟩ : ∃ i, m = i + 1 := ⟨m - 1, by omega⟩
    have i0 : (0 : Int) < ((m + 1 : Nat) : Int) := by omega
    have hm9 : m ≤ 900000 := by have := HK.out; omega
    go_wp2_with fail
    refine (thLen_any (.int .i64 0) A (m + 1) c wr).mono ?_
    rintro e w1 ⟨rfl, rfl⟩
    clear hhdr hm0
    go_wp2_with fail
    refine (hPop_any (w.heap.size + 1) (w.heap.size + 1 + 1) m (fun _ => False) f wr HH.out HHF.out hm9).mono ?_
    rintro e w2 ⟨f', rfl, hF', hpop, hH', hK2⟩
    obtain ⟨⟨xt, d⟩, hx⟩ : ∃ x, f 0 = x := ⟨_, rfl⟩
    rw [hx] at hpop
    rw [hx]
    have hwy := way_bd HOK.out ⟨by omega, by omega⟩ (HD.out.b1 _ hpop.1)
    have hyd := HY.out _ hpop.1
    dsimp only at hwy hyd
    obtain ⟨t, rfl⟩ : ∃ i : Nat, xt = i := ⟨xt.toNat, by omega⟩
    have htn : t < n := by omega
    have hd0 : 0 ≤ d := by omega
    have hd1 : d ≤ 20000 := by omega
    have HB2 := Lib.hid (HB.out.trans (hK2.below HB.out.size (fun i hi hs => by rcases hs with h | h <;> omega)))
    have HM2 := Lib.hid (HM.out.keeps hK2 (fun hs => by rcases hs with h | h <;> omega))
    have HFH := Lib.hid hF'
    have HPO := Lib.hid hpop
    have HH2 := Lib.hid hH'
    have HYD := Lib.hid hyd
    have HWB := Lib.hid hwy
    have hsz := HB2.out.size
    clear hF' hpop hH' hK2 hx hyd hwy
    have HBX := Lib.hid (below_alloc HB2.out (.cells #[.int .i64 (t : Int), .int .i64 d] 150))
    have HMX := Lib.hid (HM2.out.alloc (.cells #[.int .i64 (t : Int), .int .i64 d] 150))
    have HBC := Lib.hid (box2_new w2 (.int .i64 (t : Int)) (.int .i64 d) 150)
    have hws : w2.heap.size < (w2.alloc (.cells #[.int .i64 (t : Int), .int .i64 d] 150)).heap.size := by show _ < (w2.heap.push _).size; rw [Array.size_push]; omega
    have HWS := Lib.hid hws
    have hwe : (w2.alloc (.cells #[.int .i64 (t : Int), .int .i64 d] 150)).heap.size = w2.heap.size + 1 := by show (w2.heap.push _).size = _; rw [Array.size_push]
    have HWE := Lib.hid hwe
    have hbn : w2.heap.size ≠ w.heap.size := by have := HH2.out.lt2; omega
    have hbh : w.heap.size + 1 + 1 < w2.heap.size := HH2.out.lt2.1
    clear hws hwe
    have HKD := Lib.hid (show KeysD (valL l) by unfold KeysD; rw [valL_keys]; exact HFI.out.1)
    by_cases hft : ∃ d0, F t = some d0
    · obtain ⟨d0, hd0'⟩ := hft
      have HV := Lib.hid (valL_mem ((HFI.out.2 _ _).1 hd0'))
      have HDD := Lib.hid (d_drop HD.out HPO.out hd0')
      clear hd0'
      go_wp2_with (at_lookup; (refine wp_lookG _ rfl _ _ 91 _ rfl _ _ Tryz.underlying91 Tryz.underlying3 w.heap.size (valL l) rfl HMX.out HKD.out (t : Int) rfl _ HV.out ?_))
      go_roundg (18 * noneC n F + m)
      case measure => have := HK.out; omega
      case rel => exact ⟨l, F, m, f', tt, HMX.out, HFI.out, HH2.out.below (below_alloc (Below.refl _ _) _), HFH.out, HDD.out, HG.out.below HBX.out, HBX.out, Nat.le_refl _, by have := HK.out; omega, fun y hy => by have h1 := HY.out y (HPO.out.2.1 y hy); have := HK.out; omega⟩
    · have hft' : F t = none := by
        cases hq : F t with
        | none => rfl
        | some d0 => exact absurd ⟨d0, hq⟩ hft
      have HN := Lib.hid (show ((t : Int)) ∉ (valL l).map (·.1) by rw [valL_keys]; exact farIs_none HFI.out hft')
      have HFT := Lib.hid hft'
      have HST := Lib.hid (d_settle HOK.out ⟨by omega, by omega⟩ HD.out HPO.out hft')
      clear hft hft'
      go_wp2_with (first
        | (at_lookup; (refine wp_missG _ rfl _ _ 91 _ rfl _ _ Tryz.underlying91 Tryz.underlying3 w.heap.size (valL l) rfl HMX.out (t : Int) rfl HN.out _ (zeroI _) ?_))
        | (at_mapUpdate; (refine wp_updG _ rfl _ _ _ 91 rfl _ _ Tryz.underlying91 Tryz.underlying3 w.heap.size (valL l) rfl HMX.out (t : Int) rfl HN.out _ rfl ?_); intro w4 hm4 hg4 hs4; have HM4 := Lib.hid hm4; have HG4 := Lib.hid hg4; have HS4 := Lib.hid (hs4.trans HWE.out); obtain ⟨c0, c1⟩ := box2_keeps HBC.out (hg4.block w2.heap.size HWS.out (fun e => hbn (Option.some.inj e))); have HC4 := Lib.hid (And.intro c0 c1); have HB4 := Lib.hid (HBX.out.grown hg4 HBX.out.size (fun i hi => by injection hi with hi; omega)); clear hm4 hg4 hs4)
        | (at_lookup; (refine wp_lookG _ rfl _ _ 88 _ rfl _ _ Tryz.underlying88 Tryz.underlying3 bm (topL bm n) rfl (HG.out.below HB4.out).1 (topL_D _ _) (t : Int) rfl _ (topL_mem htn) ?_))
        | (at_range; (refine wp_rangeG _ rfl _ 91 rfl _ _ Tryz.underlying91 (bm + 1 + t) (valL (nbr xs t)) rfl ((HG.out.below HB4.out).2 t htn) ?_); intro w5 hi5 hg5 hs5; have HI5 := Lib.hid hi5; have HG5 := Lib.hid hg5; have HS5 := Lib.hid hs5; clear hi5 hg5 hs5; go_frame))
      have hr4a : w4.heap.size ≤ w2.heap.size + 1 := Nat.le_of_eq HS4.out
      have hr4b : w2.heap.size + 1 ≤ w4.heap.size := Nat.le_of_eq HS4.out.symm
      have HST1 := Lib.hid HST.out.1
      have HLE := Lib.hid HST.out.2
      have HF5 := Lib.hid (farIs_put HFI.out d HFT.out)
      have hb5 : Below w4.heap.size w4 w5 := below_of_grown0 HG5.out
      have HB5 := Lib.hid (HB4.out.trans (hb5.mono HB4.out.size))
      have HM5 := Lib.hid (show MapG w5 w.heap.size (valL (l ++ [((t : Int), d)])) by rw [valL_snoc]; exact HM4.out.below hb5 HM4.out.lt)
      have hlt5 : w2.heap.size < w5.heap.size := by have := HS5.out; omega
      have HC5 := Lib.hid (box2_keeps HC4.out (hb5.block w2.heap.size (by omega)))
      have HKD5 := Lib.hid (show KeysD (valL (l ++ [((t : Int), d)])) by unfold KeysD; rw [valL_keys]; exact HF5.out.1)
      have HRW := Lib.hid (show w4.heap.size < w5.heap.size by have := HS5.out; omega)
      have HH6 := Lib.hid ((HH2.out.more (av' := fun i => i = w2.heap.size ∨ i = w4.heap.size) (fun i hi h => by omega)).grownB (below_alloc (Below.refl _ _) (.cells #[.int .i64 (t : Int), .int .i64 d] 150)) HG4.out (by omega) (by omega) hb5)
      clear c0 c1 hb5 HST HM4 HG4 HB4 HBX HMX HKD HN HBC HWS HWE HC4 HB2 HM2 HH HM
      go_wp2_with fail
      go_loopg [10, 11, 12, 13] (restC (valL (nbr xs t)).length []) (fun k _ _ _ _ wl => NextI n bm w.heap.size (w.heap.size + 1 + 1) w4.heap.size w2.heap.size xs s w (l ++ [((t : Int), d)]) (updF F t d) t d m gk k wl ∧ w4.heap.size < wl.heap.size)
      case atStart =>
        refine ⟨⟨[], m, f', HI5.out, rfl, HM5.out, HH6.out, HFH.out, d_mono HST1.out (fun v ⟨_, _, h, _⟩ => by cases h), HG.out.below HB5.out, HB5.out, by rw [restC_nil]; omega, fun y hy => ?_, HC5.out.1, HC5.out.2⟩, HRW.out⟩
        have := HY.out y (HPO.out.2.1 y hy)
        omega
      case round =>
        obtain ⟨⟨seen, m2, f2, hit, hk2', hm, hH, hHF, hD, hgr, hbl, hcnt, hyb, c0, c1⟩, hrl⟩ := hrel
        have JI := Lib.hid hit
        have JK := Lib.hid hk2'
        have JM := Lib.hid hm
        have JH := Lib.hid hH
        have JF := Lib.hid hHF
        have JD := Lib.hid hD
        have JB := Lib.hid hbl
        have JC := Lib.hid hcnt
        have JY := Lib.hid hyb
        have JX := Lib.hid (And.intro c0 c1)
        have hlen : (valL (nbr xs t)).length ≤ 16 := by rw [valL_len]; exact Nat.le_trans (nbr_len xs t) HOK.out.2.2.1
        have JL := Lib.hid hlen
        clear hit hk2' hm hH hHF hD hgr hbl hcnt hyb c0 c1 HI5 HM5 HH6 HC5 HB5 hlen
        go_wp2_with (at_next; (refine wp_nextG _ rfl _ rfl w4.heap.size (bm + 1 + t) (valL (nbr xs t)) seen rfl ((HG.out.below JB.out).2 t htn) JI.out ?_ ?_))
        · intro hall
          have HALL := Lib.hid hall
          clear hall
          go_wp2_with fail
          go_roundg (18 * noneC n (updF F t d) + m2)
          case measure =>
            have h1 := noneC_put (d := d) HFT.out (n := n) ⟨by omega, by omega⟩
            have h2 := HK.out
            have h3 := JC.out
            have h4 := JL.out
            omega
          case rel =>
            have h1 := noneC_put (d := d) HFT.out (n := n) ⟨by omega, by omega⟩
            have h2 := HK.out
            have h3 := JC.out
            have h4 := JL.out
            refine ⟨_, _, m2, f2, t, JM.out, HF5.out, JH.out.more (fun i _ h => h.elim), JF.out, d_done JD.out (fun v w' he => ?_) t, HG.out.below JB.out, JB.out, Nat.le_refl _, by omega, fun y hy => ?_⟩
            · obtain ⟨i, hi⟩ := List.getElem?_of_mem (edge_nbr HOK.out.2.2.2 he)
              have hil := (List.getElem?_eq_some_iff.1 hi).1
              exact ⟨i, w', HALL.out i (by rw [valL_len]; exact hil), hi⟩
            · have := JY.out y hy
              omega
        · intro i x v w1 hi hns hit1 hg1 hs1 hen
          obtain ⟨u, rfl, hu⟩ := valL_at hi
          have hed := nbr_edge (List.mem_of_getElem? hu)
          have heb := edge_bd HOK.out hed
          have hil : i < (valL (nbr xs t)).length := (List.getElem?_eq_some_iff.1 hi).1
          have HRC := Lib.hid (restC_next hil hns)
          have LI := Lib.hid hit1
          have LU := Lib.hid hu
          have LE := Lib.hid hed
          have LM := Lib.hid (JM.out.grown hg1 (by omega))
          have LH := Lib.hid (JH.out.grown hg1 (by omega) (.inr (.inr rfl)))
          have LB := Lib.hid (JB.out.grown hg1 JB.out.size (fun i hi => by injection hi with hi; omega))
          have LX := Lib.hid (box2_keeps JX.out (hg1.block w2.heap.size (by omega) (fun e => by injection e with e; omega)))
          have LS := Lib.hid hs1
          have hu0 : 1 ≤ u := by omega
          have hu9 : u ≤ 99 := by omega
          have hw1 : w4.heap.size < w1.heap.size := by omega
          clear hi hns hit1 hg1 hs1 hu hed heb JI JM JH JB JX hrl
          obtain ⟨c0, c1⟩ := LX.out
          by_cases hfx : ∃ dv, updF F t d x = some dv
          · obtain ⟨dv, hdv⟩ := hfx
            have HV := Lib.hid (valL_mem ((HF5.out.2 _ _).1 hdv))
            have HDS := Lib.hid (d_mono (V' := fun v => ∃ i' w', i' ∈ seen ++ [i] ∧ (nbr xs t)[i']? = some (v, w')) (d_skip JD.out (updF_self F t d) HLE.out hdv (fun u w he => by have := edge_bd HOK.out he; omega)) (fun v hv => seen_next LU.out hv))
            clear hdv
            go_wp2_with (at_lookup; (refine wp_lookG _ rfl _ _ 91 _ rfl _ _ Tryz.underlying91 Tryz.underlying3 w.heap.size (valL (l ++ [((t : Int), d)])) rfl LM.out HKD5.out x rfl _ HV.out ?_))
            go_roundg (restC (valL (nbr xs t)).length (seen ++ [i]))
            case measure => have := HRC.out; have := JK.out; omega
            case rel => exact ⟨⟨seen ++ [i], m2, f2, LI.out, rfl, LM.out, LH.out, JF.out, HDS.out, HG.out.below LB.out, LB.out, by have := HRC.out; have := JK.out; have := JC.out; omega, JY.out, LX.out.1, LX.out.2⟩, hw1⟩
          · have hno : updF F t d x = none := by
              cases hq : updF F t d x with
              | none => rfl
              | some d0 => exact absurd ⟨d0, hq⟩ hfx
            have HN5 := Lib.hid (show x ∉ (valL (l ++ [((t : Int), d)])).map (·.1) by rw [valL_keys]; exact farIs_none HF5.out hno)
            have HNO := Lib.hid hno
            have hm29 : m2 ≤ 900000 := by have := JC.out; have := JL.out; have := HK.out; omega
            clear hfx hno
            go_wp2_with (at_lookup; (refine wp_missG _ rfl _ _ 91 _ rfl _ _ Tryz.underlying91 Tryz.underlying3 w.heap.size (valL (l ++ [((t : Int), d)])) rfl LM.out x rfl HN5.out _ (zeroI _) ?_))
            refine (hPush_any (w.heap.size + 1) (w.heap.size + 1 + 1) m2 (fun i => i = w2.heap.size ∨ i = w4.heap.size) f2 ⟨x, d + u⟩ w1 LH.out JF.out (fun j hj h => by omega) hm29).mono ?_
            rintro e w6 ⟨rfl, f3, hF3, hmem, hH3, hK3⟩
            have KF := Lib.hid hF3
            have KH := Lib.hid hH3
            have KY := Lib.hid (fun y => (hmem y).1)
            have KD := Lib.hid (d_mono (V' := fun v => ∃ i' w', i' ∈ seen ++ [i] ∧ (nbr xs t)[i']? = some (v, w')) (d_push HOK.out JD.out (updF_self F t d) HLE.out HNO.out LE.out (fun w' he => edge_unique HOK.out he LE.out) hmem) (fun v hv => seen_next LU.out hv))
            have KI := Lib.hid (LI.out.keeps hK3 (fun hs => by rcases hs with h | ⟨_, h⟩; omega; exact h (.inr rfl)))
            have KM := Lib.hid (LM.out.keeps hK3 (fun hs => by rcases hs with h | h <;> omega))
            have KB := Lib.hid (LB.out.trans (hK3.below LB.out.size (fun i hi hs => by rcases hs with h | h <;> omega)))
            have KX := Lib.hid (box2_keeps LX.out (hK3.block w2.heap.size (by omega) (fun hs => by rcases hs with h | ⟨_, h⟩; omega; exact h (.inl rfl))))
            have hw6 : w4.heap.size < w6.heap.size := Nat.lt_of_lt_of_le hw1 hK3.size
            clear hF3 hmem hH3 hK3 c0 c1
            go_wp2_with fail
            go_roundg (restC (valL (nbr xs t)).length (seen ++ [i]))
            case measure => have := HRC.out; have := JK.out; omega
            case rel =>
              refine ⟨⟨seen ++ [i], m2 + 1, f3, KI.out, rfl, KM.out, KH.out, KF.out, KD.out, HG.out.below KB.out, KB.out, by have := HRC.out; have := JK.out; have := JC.out; omega, fun y hy => ?_, KX.out.1, KX.out.2⟩, hw6⟩
              rcases KY.out y hy with rfl | h
              · have := HYD.out
                dsimp only
                omega
              · exact JY.out y h
end Go.Proofs.YtgjllminidlolaaGreatDoor
/- Contracts: RoadsFar of both. -/
set_option linter.unusedVariables false
namespace Go.Proofs.YtgjllminidlolaaGreatDoor
open Go.RowKit Go.MapKept

set_option maxRecDepth 20000 in
set_option maxHeartbeats 3200000 in
theorem implRoadsFar_any (A : Option Addr) (n a c : Int) (len cap : Nat) (xs : List T3) (w : World) (h : SlE 3 enc3 w A len xs) (hn : len ≤ 16777216) :
    Calls Tryz.prog 26 #[.int .i64 n, .slice A len cap, .int .i64 a, .int .i64 c] w (Only (.int .i64 (farV n xs a c)) w) := by
  have HM := Lib.hid (mapRoads_any A n len cap xs w h hn)
  have HV0 := Lib.hid (fun (h : ¬ FarQ n xs a c) => farV_no (n := n) (xs := xs) (a := a) (b := c) (fun hh => h hh.1))
  have HV1 := Lib.hid (fun (hq : FarQ n xs a c) (d : Int) (h : IsFar xs a c d) => farV_yes hq h)
  have HV2 := Lib.hid (fun (h : ∀ d, ¬ Way xs a c d) => farV_none (n := n) h)
  clear h
  generalize farV n xs a c = v at *
  go_enter Tryz.func26, Tryz.ntmps26
  go_wp2_with fail
  refine HM.out.mono ?_
  rintro e w2 ⟨hb, ⟨hok, m, bm, rfl, rfl, -, hg⟩ | ⟨hno, rfl⟩⟩
  rotate_left
  · have HB := Lib.hid hb
    have HE := Lib.hid (HV0.out (fun h => hno h.1))
    clear hb hno
    go_wp2_with fail
    go_ret
    exact ⟨ret_int HE.out.symm, HB.out⟩
  have HB := Lib.hid hb
  have HG := Lib.hid hg
  have HK := Lib.hid hok
  clear hb hg hok
  by_cases ha : 0 ≤ a ∧ a < m
  rotate_left
  · have HE := Lib.hid (HV0.out (fun h => ha h.2.1))
    go_wp2_with fail
    refine (mhas_any m bm a xs w2 HG.out).mono ?_
    intro e w3 hp
    obtain ⟨rfl, rfl⟩ := hp.no ha
    clear hp ha
    go_wp2_with fail
    go_ret
    exact ⟨ret_int HE.out.symm, HB.out⟩
  by_cases hc : 0 ≤ c ∧ c < m
  rotate_left
  · have HE := Lib.hid (HV0.out (fun h => hc h.2.2))
    go_wp2_with fail
    refine (mhas_any m bm a xs w2 HG.out).mono ?_
    intro e w3 hp
    obtain ⟨rfl, rfl⟩ := hp.yes ha
    clear hp
    go_wp2_with fail
    refine (mhas_any m bm c xs w2 HG.out).mono ?_
    intro e w3 hp
    obtain ⟨rfl, rfl⟩ := hp.no hc
    clear hp ha hc
    go_wp2_with fail
    go_ret
    exact ⟨ret_int HE.out.symm, HB.out⟩
  have HQ := Lib.hid (show FarQ m xs a c from ⟨HK.out, ha, hc⟩)
  go_wp2_with fail
  refine (mhas_any m bm a xs w2 HG.out).mono ?_
  intro e w3 hp
  obtain ⟨rfl, rfl⟩ := hp.yes ha
  clear hp
  go_wp2_with fail
  refine (mhas_any m bm c xs w2 HG.out).mono ?_
  intro e w3 hp
  obtain ⟨rfl, rfl⟩ := hp.yes hc
  clear hp
  obtain ⟨a, rfl⟩ : ∃ k : Nat, a = k := ⟨a.toNat, by omega⟩
  have ham : a < m := by omega
  clear ha hc
  go_wp2_with fail
  refine (distances_any m bm a xs w2 HG.out HK.out ham).mono ?_
  rintro e w4 ⟨fb, l, rfl, hm, hnd, hin, hno, -, hb4, -⟩
  have HM4 := Lib.hid hm
  have HB4 := Lib.hid (below_trans HB.out hb4)
  by_cases hcl : c ∈ l.map (·.1)
  · obtain ⟨⟨c', d⟩, hd, hcc⟩ := List.mem_map.1 hcl
    dsimp only at hcc
    subst hcc
    have HE := Lib.hid (HV1.out HQ.out d ((hin _ _).1 hd))
    have HD := Lib.hid (valL_mem hd)
    have HKD := Lib.hid (show KeysD (valL l) by unfold KeysD; rw [valL_keys]; exact hnd)
    clear hm hnd hin hno hb4 hcl hd
    go_wp2_with (at_lookup; (refine wp_lookG _ rfl _ _ 91 _ rfl _ _ Tryz.underlying91 Tryz.underlying3 fb (valL l) rfl HM4.out HKD.out _ rfl _ HD.out ?_))
    go_ret
    exact ⟨ret_int HE.out.symm, HB4.out⟩
  · have HE := Lib.hid (HV2.out (hno _ hcl))
    have HN := Lib.hid (show c ∉ (valL l).map (·.1) by rw [valL_keys]; exact hcl)
    clear hm hnd hin hno hb4 hcl
    go_wp2_with (at_lookup; (refine wp_missG _ rfl _ _ 91 _ rfl _ _ Tryz.underlying91 Tryz.underlying3 fb (valL l) rfl HM4.out _ rfl HN.out _ (zeroI _) ?_))
    go_ret
    exact ⟨ret_int HE.out.symm, HB4.out⟩

set_option maxRecDepth 20000 in
set_option maxHeartbeats 3200000 in
theorem specRoadsFar_any (A : Option Addr) (n a c : Int) (len cap : Nat) (xs : List T3) (w : World) (h : SlE 3 enc3 w A len xs) (hn : len ≤ 16777216) (h1 : -1000000 ≤ n) (h2 : n ≤ 1000000) :
    Calls Tryz.prog 54 #[.int .i64 n, .slice A len cap, .int .i64 a, .int .i64 c] w (Only (.int .i64 (farV n xs a c)) w) := by
  have H := Lib.hid h
  have HV0 := Lib.hid (fun (h : ¬ FarQ n xs a c) => farV_no (n := n) (xs := xs) (a := a) (b := c) (fun hh => h hh.1))
  have HV1 := Lib.hid (fun (hq : FarQ n xs a c) (d : Int) (h : IsFar xs a c d) => farV_yes hq h)
  have HV2 := Lib.hid (fun (h : ∀ d, ¬ Way xs a c d) => farV_none (n := n) h)
  clear h
  generalize farV n xs a c = v at *
  go_enter Tryz.func54, Tryz.ntmps54
  go_wp2_with fail
  refine (specRoadsValid_any A n len cap xs w H.out hn h1 h2).mono ?_
  intro e w2 hp
  rcases hp.cases with ⟨rfl, hok, hb⟩ | ⟨rfl, hok, hb⟩
  rotate_left
  · have HB := Lib.hid hb
    have HE := Lib.hid (HV0.out (fun h => hok h.1))
    clear hb hok hp
    go_wp2_with fail
    go_ret
    exact ⟨ret_int HE.out.symm, HB.out⟩
  have HB := Lib.hid hb
  have HK := Lib.hid hok
  have hn1 := hok.1
  clear hb hok hp
  obtain ⟨m, rfl⟩ : ∃ k : Nat, n = k := ⟨n.toNat, by omega⟩
  by_cases ha : 0 ≤ a ∧ a ≤ (m : Int) - 1
  rotate_left
  · have HE := Lib.hid (HV0.out (fun h => ha ⟨h.2.1.1, by have := h.2.1.2; omega⟩))
    go_wp2_with fail
    refine (l6In_any _ _ _ _).mono ?_
    intro e w3 hp
    obtain ⟨rfl, rfl⟩ := hp.no ha
    clear hp ha
    go_wp2_with fail
    go_ret
    exact ⟨ret_int HE.out.symm, HB.out⟩
  by_cases hc : 0 ≤ c ∧ c ≤ (m : Int) - 1
  rotate_left
  · have HE := Lib.hid (HV0.out (fun h => hc ⟨h.2.2.1, by have := h.2.2.2; omega⟩))
    go_wp2_with fail
    refine (l6In_any _ _ _ _).mono ?_
    intro e w3 hp
    obtain ⟨rfl, rfl⟩ := hp.yes ha
    clear hp
    go_wp2_with fail
    refine (l6In_any _ _ _ _).mono ?_
    intro e w3 hp
    obtain ⟨rfl, rfl⟩ := hp.no hc
    clear hp hc
    go_wp2_with fail
    go_ret
    exact ⟨ret_int HE.out.symm, HB.out⟩
  have HQ := Lib.hid (show FarQ m xs a c from ⟨HK.out, ⟨ha.1, by omega⟩, ⟨hc.1, by omega⟩⟩)
  go_wp2_with fail
  refine (l6In_any _ _ _ _).mono ?_
  intro e w3 hp
  obtain ⟨rfl, rfl⟩ := hp.yes ha
  clear hp
  go_wp2_with fail
  refine (l6In_any _ _ _ _).mono ?_
  intro e w3 hp
  obtain ⟨rfl, rfl⟩ := hp.yes hc
  clear hp
  obtain ⟨a, rfl⟩ : ∃ k : Nat, a = k := ⟨a.toNat, by omega⟩
  obtain ⟨c, rfl⟩ : ∃ k : Nat, c = k := ⟨c.toNat, by omega⟩
  have ham : a < m := by omega
  have hcm : c < m := by omega
  clear ha hc
  go_wp2_with fail
  refine (l1Far_any A m a len cap xs w2 (H.out.below HB.out) hn HK.out ham).mono ?_
  rintro e w4 ⟨v4, rfl, hown, hb4⟩
  obtain ⟨A4, c4, rfl, hs4, -⟩ := hown.slc encI_len (tblL_len m _)
  have HB4 := Lib.hid (below_trans HB.out hb4)
  obtain ⟨bb, off, p, rfl, hbl, hp, -, g0⟩ := at1 hs4 (Below.refl _ w4) hcm
  rw [tblL_at _ hcm] at hp
  obtain rfl : rounds xs a m c = p := Option.some.inj hp
  have hr := rounds_all HK.out (s := (a : Int)) ⟨by omega, by omega⟩ (c : Int)
  have hrb := snd_bdF (snd_rounds HK.out (a : Int) m) (c : Int)
  have HRR := Lib.hid hr
  clear hown hs4 hb4 hp hr hbl
  generalize rounds xs a m c = r at *
  by_cases hw : ∃ d, Way xs a c d
  · obtain ⟨d, hd⟩ := hw
    have hf := farV_way HQ.out hd
    have h3 := HRR.out.1 _ hf.1
    have HE := Lib.hid ((HV1.out HQ.out _ hf.1).trans h3.1.symm)
    have hr1 : r < 100000 := by have := h3.2; rw [← h3.1] at this; exact this
    clear hd hf h3
    go_wp2_with fail
    go_ret
    exact ⟨ret_int HE.out.symm, HB4.out⟩
  · have h3 := HRR.out.2 (fun d hd => hw ⟨d, hd⟩)
    have HE := Lib.hid (HV2.out (fun d hd => hw ⟨d, hd⟩))
    have hr1 : 100000 ≤ r := by omega
    clear hw h3
    go_wp2_with fail
    go_ret
    exact ⟨ret_int HE.out.symm, HB4.out⟩
end Go.Proofs.YtgjllminidlolaaGreatDoor
/- Plain mathematics of the sort by insertion. -/
set_option linter.unusedVariables false
namespace Go.Proofs.YtgjllminidlolaaGreatDoor

section
variable {α : Type} (less : α → α → Bool)
/-- One more in its place; the list stands from its end on. -/
def insR (x : α) : List α → List α
  | [] => [x]
  | y :: ys => if less x y then y :: insR x ys else x :: y :: ys
def sortR (l : List α) : List α := l.foldl (fun acc x => insR less x acc) []
def isort (l : List α) : List α := (sortR less l).reverse
end

section
variable {α : Type} {less : α → α → Bool}
theorem insR_len (x : α) : ∀ l : List α, (insR less x l).length = l.length + 1
  | [] => rfl
  | y :: ys => by
    simp only [insR]
    split
    · simp [insR_len x ys]
    · simp
theorem insR_perm (x : α) : ∀ l : List α, (insR less x l).Perm (x :: l)
  | [] => List.Perm.refl _
  | y :: ys => by
    simp only [insR]
    split
    · exact ((insR_perm x ys).cons y).trans (List.Perm.swap x y ys)
    · exact List.Perm.refl _
theorem sortR_next {l : List α} {i : Nat} {x : α} (h : l[i]? = some x) : sortR less (l.take (i + 1)) = insR less x (sortR less (l.take i)) := by
  have e : l.take (i + 1) = l.take i ++ [x] := by rw [List.take_add_one, h]; rfl
  rw [e]; unfold sortR; rw [List.foldl_append]; rfl
theorem foldl_perm : ∀ (l acc : List α), (l.foldl (fun acc x => insR less x acc) acc).Perm (acc ++ l)
  | [], acc => by simp
  | x :: l, acc => by
    simp only [List.foldl_cons]
    refine (foldl_perm l _).trans ?_
    have h := (insR_perm (less := less) x acc).append_right l
    refine h.trans ?_
    exact (List.perm_middle (a := x) (l₁ := acc) (l₂ := l)).symm
theorem sortR_perm (l : List α) : (sortR less l).Perm l := by simpa [sortR] using foldl_perm (less := less) l []
theorem isort_perm (l : List α) : (isort less l).Perm l := (List.reverse_perm _).trans (sortR_perm l)
theorem sortR_len (l : List α) : (sortR less l).length = l.length := (sortR_perm l).length_eq
theorem isort_len (l : List α) : (isort less l).length = l.length := (isort_perm l).length_eq
theorem sortR_one (l : List α) : (sortR less (l.take 1)).reverse ++ l.drop 1 = l := by
  cases l with
  | nil => rfl
  | cons x t => rfl
/-- The place where the inner loop stands: x at place j, the ones ahead of it in ys (from their end on), the ones that it has passed in zs. -/
def Ins (less : α → α → Bool) (l : List α) (i j : Nat) (x : α) (cur : List α) : Prop :=
  ∃ ys zs : List α, cur = ys.reverse ++ x :: (zs ++ l.drop (i + 1)) ∧ ys.length = j ∧ sortR less (l.take (i + 1)) = zs.reverse ++ insR less x ys
theorem ins_start {l : List α} {i : Nat} {x : α} (h : l[i]? = some x) : Ins less l i i x ((sortR less (l.take i)).reverse ++ l.drop i) := by
  have hi := List.getElem?_eq_some_iff.1 h
  refine ⟨sortR less (l.take i), [], ?_, ?_, ?_⟩
  · rw [List.drop_eq_getElem_cons hi.1, hi.2]; rfl
  · rw [sortR_len, List.length_take, Nat.min_eq_left (Nat.le_of_lt hi.1)]
  · rw [sortR_next h]; rfl
theorem ins_at {l : List α} {i j : Nat} {x : α} {cur : List α} (h : Ins less l i j x cur) : cur[j]? = some x := by
  obtain ⟨ys, zs, rfl, hj, _⟩ := h
  subst hj
  simp
theorem insL_len {l : List α} {i j : Nat} {x : α} {cur : List α} (h : Ins less l i j x cur) (hi : i < l.length) : cur.length = l.length ∧ j ≤ i := by
  obtain ⟨ys, zs, rfl, hj, hs⟩ := h
  have := congrArg List.length hs
  rw [sortR_len, List.length_take, Nat.min_eq_left hi, List.length_append, List.length_reverse, insR_len] at this
  simp only [List.length_append, List.length_reverse, List.length_cons, List.length_drop]
  omega
theorem ins_prev {l : List α} {i j : Nat} {x : α} {cur : List α} (h : Ins less l i (j + 1) x cur) : ∃ y, cur[j]? = some y ∧
    (less x y = true → Ins less l i j x ((cur.set (j + 1) y).set j x)) ∧ (less x y = false → cur = (sortR less (l.take (i + 1))).reverse ++ l.drop (i + 1)) := by
  obtain ⟨ys, zs, rfl, hj, hs⟩ := h
  cases ys with
  | nil => simp at hj
  | cons y ys =>
    simp only [List.length_cons, Nat.add_right_cancel_iff] at hj
    have hl : ys.reverse.length = j := by simpa using hj
    refine ⟨y, ?_, fun hly => ⟨ys, y :: zs, ?_, hj, ?_⟩, fun hly => ?_⟩
    · simp only [List.reverse_cons, List.append_assoc]
      rw [List.getElem?_append_right (by omega), hl]
      simp
    · simp only [List.reverse_cons, List.append_assoc, List.cons_append, List.nil_append]
      rw [List.set_append_right _ _ (by omega), hl]
      have e : j + 1 - j = 1 := by omega
      rw [e]
      simp only [List.set_cons_succ, List.set_cons_zero]
      rw [List.set_append_right _ _ (by omega), hl, Nat.sub_self]
      simp
    · rw [hs]
      simp [insR, hly]
    · rw [hs]
      simp [insR, hly]
theorem ins_zero {l : List α} {i : Nat} {x : α} {cur : List α} (h : Ins less l i 0 x cur) : cur = (sortR less (l.take (i + 1))).reverse ++ l.drop (i + 1) := by
  obtain ⟨ys, zs, rfl, hj, hs⟩ := h
  obtain rfl : ys = [] := List.eq_nil_of_length_eq_zero hj
  rw [hs]
  simp [insR]
end

/-! ### Integers -/
def ltI (x y : Int) : Bool := decide (x < y)
theorem insR_sorted (x : Int) : ∀ l : List Int, l.Pairwise (fun a b => b ≤ a) → (insR ltI x l).Pairwise (fun a b => b ≤ a)
  | [], _ => by simp [insR]
  | y :: ys, h => by
    have h' := List.pairwise_cons.1 h
    simp only [insR]
    by_cases hxy : x < y
    · rw [if_pos (by simpa [ltI] using hxy)]
      refine List.pairwise_cons.2 ⟨fun z hz => ?_, insR_sorted x ys h'.2⟩
      rcases List.mem_cons.1 ((insR_perm x ys).subset hz) with rfl | hz
      · omega
      · exact h'.1 z hz
    · rw [if_neg (by simpa [ltI] using hxy)]
      refine List.pairwise_cons.2 ⟨fun z hz => ?_, h⟩
      rcases List.mem_cons.1 hz with rfl | hz
      · omega
      · have := h'.1 z hz; omega
theorem sortR_sorted (l : List Int) : (sortR ltI l).Pairwise (fun a b => b ≤ a) := by
  have key : ∀ (l acc : List Int), acc.Pairwise (fun a b => b ≤ a) → (l.foldl (fun acc x => insR ltI x acc) acc).Pairwise (fun a b => b ≤ a) := by
    intro l
    induction l with
    | nil => intro acc h; exact h
    | cons x l ih => intro acc h; exact ih _ (insR_sorted x acc h)
  exact key l [] List.Pairwise.nil
theorem isort_sorted (l : List Int) : (isort ltI l).Pairwise (· ≤ ·) := by
  unfold isort
  rw [List.pairwise_reverse]
  exact sortR_sorted l
end Go.Proofs.YtgjllminidlolaaGreatDoor
