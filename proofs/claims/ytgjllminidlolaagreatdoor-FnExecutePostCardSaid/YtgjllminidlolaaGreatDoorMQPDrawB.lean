/- Contracts: the draws of nets of timetables. -/
import Derived.Test.YtgjllminidlolaaGreatDoorMQPDraw
import Derived.Test.YtgjllminidlolaaGreatDoorMQPWalkH
set_option linter.unusedVariables false
namespace Go.Proofs.YtgjllminidlolaaGreatDoor
open Go.RowKit

theorem NetB.lt {base : Nat} {W : World} {v : Value} {net : List (List T3)} (h : NetB base W v net) {i : Nat} (hi : v.ownBlock = some i) : base ≤ i ∧ i < W.heap.size := by
  obtain ⟨ss, h1, -, -⟩ := h
  exact h1.lt i hi
theorem NetB.kept {base : Nat} {W W' : World} {row : Option Nat} {v : Value} {net : List (List T3)} (h : NetB base W v net) (hg : W.grownBy W' row) (hr : ∀ g, row = some g → g < base) : NetB base W' v net := by
  obtain ⟨ss, h1, h2, h3⟩ := h
  have ap : ∀ u : Value, (∀ i, u.ownBlock = some i → base ≤ i) → u.ownBlock = none ∨ u.ownBlock ≠ row := fun u hu => by
    cases e : u.ownBlock with
    | none => exact .inl rfl
    | some i => exact .inr fun e2 => by have := hr i e2.symm; have := hu i e; omega
  exact ⟨ss, h1.apart hg (ap _ fun i hi => (h1.lt i hi).1), h2, fun j s xs hs hx => ⟨OwnE.apart (h3 j s xs hs hx).1 hg (ap _ fun i hi => ((h3 j s xs hs hx).1.lt i hi).1), (h3 j s xs hs hx).2⟩⟩
/-- A draw of a net under way: the reader and a net of its own. -/
def DGN (w : World) (R m : Nat) (v : Value) (net : List (List T3)) (W : World) : Prop := R < w.heap.size ∧ RdAt W R m ∧ w.grownBy W (some R) ∧ NetB w.heap.size W v net
section
variable {w W W' W2 : World} {R m m' : Nat} {v v' sv : Value} {net : List (List T3)} {xs : List T3}
theorem DGN.size (h : DGN w R m v net W) : w.heap.size ≤ W.heap.size := h.2.2.1.size
theorem DGN.pick (h : DGN w R m v net W) (hr : RdAt W' R m') (hg : W.grownBy W' (some R)) : DGN w R m' v net W' :=
  ⟨h.1, hr, grown_trans h.2.2.1 hg, h.2.2.2.kept hg (fun g hg => by injection hg with hg; subst hg; exact h.1)⟩
theorem DGN.below (h : DGN w R m v net W) (hb : Below W.heap.size W W') : DGN w R m v net W' := ⟨h.1, h.2.1.below hb (Nat.le_refl _), grown_below h.2.2.1 hb, h.2.2.2.below hb⟩
theorem DGN.mono (h : DGN w R m v net W) (hm : m ≤ m') : DGN w R m' v net W := ⟨h.1, h.2.1.mono hm, h.2.2⟩
theorem DGN.push (h : DGN w R m v net W) (hr : RdAt W2 R m') (hg : W.grownBy W2 (some R)) (ho : OwnE 3 enc3 103 W.heap.size W2 sv xs) :
    ∃ (ss : List Slv) (A : Option Addr) (n c : Nat), sv = .slice A n c ∧ OwnE 1 encW 50 w.heap.size W2 v ss ∧ ss.length = net.length ∧ w.heap.size ≤ W2.heap.size ∧
      ∀ v' w', OwnE 1 encW 50 w.heap.size w' v' (ss ++ [⟨A, n, c⟩]) → W2.grownBy w' v.ownBlock → (v'.ownBlock = v.ownBlock ∨ v'.ownBlock = some (W2.heap.size + 1)) → DGN w R m' v' (net ++ [xs]) w' := by
  have hp := h.pick hr hg
  have hlt := fun i hi => (h.2.2.2.lt (i := i) hi)
  obtain ⟨h1, h2, h3, ss, h4, h5, h6⟩ := hp
  obtain ⟨A, c, rfl, -, -⟩ := ho.slc enc3_len rfl
  refine ⟨ss, A, _, c, rfl, h4, h5, h3.size, fun v' w' hown hg' hl => ⟨h1, h2.grown hg' (fun j hj => by have := (h4.lt j hj).1; omega), grown_own h3 hg' (fun j hj => (h4.lt j hj).1), ?_⟩⟩
  refine NetB.push (s := ⟨A, xs.length, c⟩) h4 h5 h6 (ho.base_le h.size) (fun i hi e => ?_) hown hg' hl
  have e1 := (ho.lt i hi).1
  have e2 := (hlt i e).2
  omega
end
theorem cell_keep {W W' : World} (hb : Below W.heap.size W W') {p : Addr} {v : Value} (h : W.cell? p = some v) : W'.cell? p = some v := by
  rw [hb.cell (World.block_lt_of_cell? W _ h)]
  exact h
theorem NetB.netS_of {base : Nat} {W : World} {A : Option Addr} {n c : Nat} {net : List (List T3)} (h : NetB base W (.slice A n c) net) (hn : net.length = n) : NetS W A n net := by
  obtain ⟨A', c', hv, h2, -⟩ := h.netS
  injection hv with e1 e2 e3
  subst e1 hn
  exact h2
theorem NetB.at_ {base : Nat} {W wr : World} {A : Option Addr} {n c : Nat} {net : List (List T3)} (h : NetB base W (.slice A n c) net) (hn : net.length = n) (hb : Below W.heap.size W wr) {j : Nat} (hj : j < n) :
    ∃ b off sA sn sc zs, A = some ⟨b, off, none⟩ ∧ net[j]? = some zs ∧ wr.cell? ⟨b, off + j, none⟩ = some (.slice sA sn sc) ∧ SlE 3 enc3 wr sA sn zs ∧ OwnE 3 enc3 103 base wr (.slice sA sn sc) zs ∧ ∀ i, (Slv.mk sA sn sc).v.ownBlock = some i → i < W.heap.size := by
  obtain ⟨ss, h1, h2, h3⟩ := h
  have hsl := sl_of_own_at encV_len (own_WV h1) (n := n) (by rw [List.length_map, h2, hn])
  obtain ⟨b, off, x, hA, hlt, hx, hd, hc⟩ := (hsl.below hb).at_ hj
  rw [List.getElem?_map] at hx
  obtain ⟨⟨sA, sn, sc⟩, hs, rfl⟩ := Option.map_eq_some_iff.1 hx
  obtain ⟨zs, hz⟩ : ∃ zs, net[j]? = some zs := ⟨_, List.getElem?_eq_getElem (by omega)⟩
  have ho := (h3 j _ zs hs hz).1
  obtain ⟨A', c', hv, hsz, -⟩ := ho.slc enc3_len rfl
  have hv : Value.slice sA sn sc = .slice A' zs.length c' := hv
  injection hv with e1 e2 e3
  subst e1 e2 e3
  refine ⟨b, off, _, _, _, zs, hA, hz, by have := hc 0 _ rfl; rw [Nat.mul_one, Nat.add_zero] at this; exact this, hsz.below hb, OwnE.below ho hb (Nat.le_refl _), fun i hi => (ho.lt i hi).2⟩
theorem ge_next {v v' : Value} {b n : Nat} (h : ∀ j, v.ownBlock = some j → b ≤ j) (hl : v'.ownBlock = v.ownBlock ∨ v'.ownBlock = some (n + 1)) (hb : b ≤ n) : ∀ j, v'.ownBlock = some j → b ≤ j := fun j hj => by
  rcases hl with hl | hl
  · exact h j (by rw [← hl]; exact hj)
  · rw [hl] at hj
    injection hj with hj
    omega
/-- A number and a net have been drawn. -/
def DrawnN (w : World) (R m : Nat) (e : Ending) (w' : World) : Prop :=
  ∃ n v net, e = .returned (.tuple #[.int .i64 n, v]) ∧ 2 ≤ n ∧ n ≤ 6 ∧ net.length ≤ 6 ∧ (∀ xs ∈ net, xs.length ≤ 6) ∧ DGN w R m v net w'
theorem all6_push {net : List (List T3)} {xs : List T3} (h : ∀ xs ∈ net, xs.length ≤ 6) (hx : xs.length ≤ 6) : ∀ ys ∈ net ++ [xs], ys.length ≤ 6 := fun ys hy => by
  rcases List.mem_append.1 hy with hy | hy
  · exact h ys hy
  · rw [List.mem_singleton.1 hy]; exact hx

set_option maxRecDepth 20000 in
set_option maxHeartbeats 12800000 in
theorem l92Net_any (R m : Nat) (w : World) (h : RdAt w R m) (hm : m ≤ 40000) :
    Calls Tryz.prog 121 #[.pointer (some ⟨R, 0, none⟩)] w (DrawnN w R (m + 220)) := by
  have hRw := h.lt
  have H := Lib.hid h
  clear h
  go_enter Tryz.func121, Tryz.ntmps121
  go_wp2_with fail
  refine (pick_any R m 5 w H.out (by omega) (by omega)).mono ?_
  rintro e w1 ⟨x1, rfl, a0, a1, -, hr, hg⟩
  have a1 := a1 (by omega)
  have hsz1 := hg.size
  have D1 : Hid (DGN w R (m + 1) (.slice (some ⟨w1.heap.size, 0, none⟩) 0 0) [] (w1.alloc (.cells #[] 50))) :=
    ⟨hRw, hr.below (below_alloc (Below.refl _ w1) _) (Nat.le_refl _), grown_alloc hg _, NetB.nil hsz1⟩
  clear hr hg H
  go_wp2_with fail
  refine (pick_any R (m + 1) 6 _ D1.out.2.1 (by omega) (by omega)).mono ?_
  rintro e w2 ⟨K, rfl, n0, n1, -, hr, hg⟩
  have n1 := n1 (by omega)
  obtain ⟨K, rfl⟩ : ∃ i : Nat, K = i := ⟨K.toNat, by omega⟩
  have D2 := Lib.hid (D1.out.pick hr hg)
  obtain ⟨N, hN⟩ : ∃ N, N = 2 + x1 := ⟨_, rfl⟩
  have hN1 : 2 ≤ N := by omega
  have hN2 : N ≤ 6 := by omega
  clear hr hg D1
  go_wp2_with fail
  rw [← hN]
  clear hN a0 a1
  go_loopw [5, 7] (fun v i wr => ∃ (k : Nat) (net : List (List T3)), k ≤ K ∧ i = .int .i64 k ∧ net.length = k ∧ (∀ xs ∈ net, xs.length ≤ 6) ∧ DGN w R (m + 2 + 41 * k) v net wr) (fun _ i _ => K - (intOf i).toNat)
  case atStart => exact ⟨0, [], by omega, rfl, rfl, fun xs hx => by (cases hx), D2.out⟩
  case round =>
    obtain ⟨k, net, hk, rfl, hl, h6, hd⟩ := hrel
    have HD := Lib.hid hd
    have HL := Lib.hid hl
    have H6 := Lib.hid h6
    clear hd D2 hl h6
    by_cases hlt : k < K
    · have hltz : (k : Int) < (K : Int) := by omega
      go_wp2_with fail
      refine (pick_any R (m + 2 + 41 * k) 150 wr HD.out.2.1 (by omega) (by omega)).mono ?_
      rintro e w3 ⟨t, rfl, -, -, -, hr, hg⟩
      have D3 := Lib.hid (HD.out.pick hr hg)
      clear hr hg HD
      go_wp2_with fail
      refine (l91Stops_any R (m + 2 + 41 * k + 1) N t w3 D3.out.2.1 (by omega) hN1 hN2).mono ?_
      rintro e w4 ⟨sv, xs, rfl, hx6, hd⟩
      obtain ⟨ss, sA, sn, sc, rfl, h1, h2, hsz4, h3⟩ := D3.out.push hd.2.1 hd.2.2.1 hd.2.2.2
      have H1 := Lib.hid h1
      have H2 := Lib.hid (show ss.length = k by rw [h2, HL.out])
      have H3 := Lib.hid h3
      clear hd h1 h2 h3
      go_wp2_with (at_builtin; refine wpList_push_at 1 24 50 encW encW_len encW_one (by omega) ⟨sA, sn, sc⟩ _ _ rfl rfl _ _ _ rfl Tryz.underlying45 info_tt rfl w.heap.size _ ss rfl rfl rfl H1.out (by rw [H2.out]; omega) (by rw [H2.out]; unfold maxLen; omega) hsz4 ?_; intro v' w' hown' hg' hl'; have D5 := Lib.hid (H3.out _ _ hown' hg' hl'); clear hown' hg' hl')
      exact ⟨⟨k + 1, _, by omega, by push_cast; rfl, by rw [List.length_append, HL.out]; rfl, all6_push H6.out hx6, D5.out.mono (by omega)⟩, by simp only [intOf]; omega⟩
    · obtain rfl : k = K := by omega
      clear hk
      go_wp2_with fail
      refine (pick_any R (m + 2 + 41 * k) 30 wr HD.out.2.1 (by omega) (by omega)).mono ?_
      rintro e w3 ⟨x3, rfl, -, -, -, hr, hg⟩
      have D3 := Lib.hid (HD.out.pick hr hg)
      clear hr hg HD
      by_cases hx3 : x3 = 0
      · have OE := Lib.hid (own_new (enc := enc3) (k := 3) w3 103 w3.heap.size (Nat.le_refl _) enc3_len [] #[] rfl (by simp) rfl)
        obtain ⟨ss, sA, sn, sc, hsv, h1, h2, hsz4, h3⟩ := D3.out.push (D3.out.2.1.below (below_alloc (Below.refl _ w3) (.cells #[] 103)) (Nat.le_refl _)) (grown_alloc (World.grownBy.refl w3 _) (.cells #[] 103)) OE.out
        injection hsv with e1 e2 e3
        subst e1 e2 e3
        have H1 := Lib.hid h1
        have H2 := Lib.hid (show ss.length = k by rw [h2, HL.out])
        have H3 := Lib.hid h3
        clear h1 h2 h3 OE
        go_wp2_with (at_builtin; refine wpList_push_at 1 24 50 encW encW_len encW_one (by omega) ⟨some ⟨w3.heap.size, 0, none⟩, 0, 0⟩ _ _ rfl rfl _ _ _ rfl Tryz.underlying45 info_tt rfl w.heap.size _ ss rfl rfl (by simp) H1.out (by rw [H2.out]; omega) (by rw [H2.out]; unfold maxLen; omega) hsz4 ?_; intro v' w' hown' hg' hl'; have D5 := Lib.hid (H3.out _ _ hown' hg' hl'); clear hown' hg' hl'; obtain ⟨net', hnet⟩ : ∃ net', net' = net ++ [([] : List T3)] := ⟨_, rfl⟩; rw [← hnet] at D5; have hnl : net'.length = k + 1 := (by rw [hnet, List.length_append, HL.out]; rfl); obtain ⟨A, ln, c, rfl, hln, -⟩ : ∃ A ln c, v' = .slice A ln c ∧ net'.length = ln ∧ True := (by obtain ⟨A, c, h1, h2, -⟩ := D5.out.2.2.2.netS; exact ⟨A, _, c, h1, rfl, trivial⟩); have HLN := Lib.hid hln; have H66 := Lib.hid (show ∀ xs ∈ net', xs.length ≤ 6 from hnet ▸ all6_push H6.out (by simp)); clear hnet; have hln6 : ln ≤ 6 := (by omega); clear hln hnl)
        clear H6
        have HNS := Lib.hid (NetB.netS_of D5.out.2.2.2 HLN.out)
        have HNL := Lib.hid (show NetLen net' from fun xs hx => Nat.le_trans (H66.out xs hx) (by omega))
        go_wp2_with fail
        refine (specNetValid_any A N ln c net' _ HNS.out (by omega) HNL.out (by omega) (by omega)).mono ?_
        intro e w7 hp
        by_cases hv : NetOk N net'
        · obtain ⟨rfl, hb⟩ := hp.yes hv
          have D7 := Lib.hid (D5.out.below hb)
          clear hp hb hv
          go_wp2_with fail
          go_ret2
          exact ⟨N, _, net', rfl, hN1, hN2, by rw [HLN.out]; exact hln6, H66.out, D7.out.mono (by omega)⟩
        obtain ⟨rfl, hb⟩ := hp.no hv
        have D7 := Lib.hid (D5.out.below hb)
        clear hp hb hv
        go_wp2_with fail
        refine (pick_any R (m + 2 + 41 * k + 1) 3 w7 D7.out.2.1 (by omega) (by omega)).mono ?_
        rintro e w8 ⟨p, rfl, p0, -, -, hr, hg⟩
        have D8 := Lib.hid (D7.out.pick hr hg)
        clear hr hg
        by_cases hp0 : 0 < p
        rotate_left
        · go_wp2_with fail
          go_ret2
          exact ⟨N, _, net', rfl, hN1, hN2, by rw [HLN.out]; exact hln6, H66.out, D8.out.mono (by omega)⟩
        have hsz8 := D8.out.size
        go_wp2_with fail
        go_loopw [8, 9] (fun g i wr => ∃ (k : Nat) (gs : List (List T3)), k ≤ ln ∧ i = .int .i64 k ∧ gs.length ≤ k ∧ (∀ xs ∈ gs, xs.length ≤ 6) ∧ NetB w.heap.size wr g gs ∧ (∀ j, g.ownBlock = some j → w8.heap.size ≤ j) ∧ Below w8.heap.size w8 wr) (fun _ i _ => ln - (intOf i).toNat)
        case atStart => exact ⟨0, [], by omega, rfl, by simp, fun xs hx => by (cases hx), NetB.nil hsz8, fun j hj => by injection hj with hj; exact Nat.le_of_eq hj, below_alloc (Below.refl _ _) _⟩
        case round =>
          obtain ⟨k, gs, hk, rfl, hgl, hg6, hnb, hge, hbr⟩ := hrel
          have HGL := Lib.hid hgl
          have HG6 := Lib.hid hg6
          have HNB := Lib.hid hnb
          have HGE := Lib.hid hge
          have HBR := Lib.hid hbr
          clear hgl hg6 hnb hge
          by_cases hkl : k < ln
          · obtain ⟨bb, off, sA, sn, sc, zs, rfl, hz, hcell, hsl, ho, hlt⟩ := D8.out.2.2.2.at_ HLN.out hbr hkl
            have hkz : (k : Int) < (ln : Int) := by omega
            have hz6 := H66.out zs (List.mem_of_getElem? hz)
            have HO := Lib.hid ho
            have HLT := Lib.hid hlt
            have HSV := Lib.hid (specStopsValid_any sA N sn sc zs wr hsl (by rw [← hsl.len]; omega) (by omega) (by omega))
            clear hz hsl ho hlt hbr
            go_wp2_with fail
            refine HSV.out.mono ?_
            intro e w9 hp
            by_cases hv : StopsOk N zs
            · obtain ⟨rfl, hb⟩ := hp.yes hv
              have hcell9 := cell_keep hb hcell
              obtain ⟨ss, g1, g2, g3⟩ := HNB.out.below hb
              have G1 := Lib.hid g1
              have G2 := Lib.hid g2
              have G3 := Lib.hid g3
              have HO9 := Lib.hid (OwnE.below HO.out hb (Nat.le_refl _))
              have B9 := Lib.hid (HBR.out.trans (hb.mono HBR.out.size))
              have hsz9 := Nat.le_trans hsz8 B9.out.size
              have hss : ss.length ≤ 6 := by rw [g2]; have := HGL.out; omega
              clear hp hb hv g1 g2 g3 hcell
              go_wp2_with (at_builtin; refine wpList_push_at 1 24 50 encW encW_len encW_one (by omega) ⟨sA, sn, sc⟩ _ _ rfl rfl _ _ _ rfl Tryz.underlying45 info_tt rfl w.heap.size _ ss rfl rfl rfl G1.out (by omega) (by unfold maxLen; omega) hsz9 ?_; intro v' w' hown' hg' hl'; have NB := Lib.hid (NetB.push (s := ⟨sA, sn, sc⟩) G1.out G2.out G3.out HO9.out (fun i hi e => Nat.lt_irrefl _ (Nat.lt_of_lt_of_le (HLT.out i hi) (HGE.out i e))) hown' hg' hl'); have GE := Lib.hid (ge_next HGE.out hl' B9.out.size); have BR := Lib.hid (B9.out.grown hg' B9.out.size (fun j hj => HGE.out j hj)); clear hown' hg' hl')
              exact ⟨⟨k + 1, _, by omega, by push_cast; rfl, by rw [List.length_append]; exact Nat.succ_le_succ HGL.out, all6_push HG6.out hz6, NB.out, GE.out, BR.out⟩, by simp only [intOf]; omega⟩
            · obtain ⟨rfl, hb⟩ := hp.no hv
              have NB := Lib.hid (HNB.out.below hb)
              have B9 := Lib.hid (HBR.out.trans (hb.mono HBR.out.size))
              clear hp hb hv hcell
              go_wp2_with fail
              exact ⟨⟨k + 1, gs, by omega, by push_cast; rfl, Nat.le_succ_of_le HGL.out, HG6.out, NB.out, HGE.out, B9.out⟩, by simp only [intOf]; omega⟩
          · obtain rfl : k = ln := by omega
            clear hbr
            go_wp2_with fail
            go_ret2
            exact ⟨N, _, gs, rfl, hN1, hN2, Nat.le_trans HGL.out hln6, HG6.out, (show DGN w R _ _ gs wr from ⟨D8.out.1, D8.out.2.1.below HBR.out (Nat.le_refl _), grown_below D8.out.2.2.1 HBR.out, HNB.out⟩).mono (by omega)⟩
      · obtain ⟨A, ln, c, rfl, hln, -⟩ : ∃ A ln c, u5 = .slice A ln c ∧ net.length = ln ∧ True := by
          obtain ⟨A, c, h1, h2, -⟩ := D3.out.2.2.2.netS
          exact ⟨A, _, c, h1, rfl, trivial⟩
        have HLN := Lib.hid hln
        have hln6 : ln ≤ 6 := by rw [← hln, HL.out]; omega
        clear hln
        have HNS := Lib.hid (NetB.netS_of D3.out.2.2.2 HLN.out)
        have HNL := Lib.hid (show NetLen net from fun xs hx => Nat.le_trans (H6.out xs hx) (by omega))
        go_wp2_with fail
        refine (specNetValid_any A N ln c net _ HNS.out (by omega) HNL.out (by omega) (by omega)).mono ?_
        intro e w7 hp
        by_cases hv : NetOk N net
        · obtain ⟨rfl, hb⟩ := hp.yes hv
          have D7 := Lib.hid (D3.out.below hb)
          clear hp hb hv
          go_wp2_with fail
          go_ret2
          exact ⟨N, _, net, rfl, hN1, hN2, by rw [HLN.out]; exact hln6, H6.out, D7.out.mono (by omega)⟩
        obtain ⟨rfl, hb⟩ := hp.no hv
        have D7 := Lib.hid (D3.out.below hb)
        clear hp hb hv
        go_wp2_with fail
        refine (pick_any R (m + 2 + 41 * k + 1) 3 w7 D7.out.2.1 (by omega) (by omega)).mono ?_
        rintro e w8 ⟨p, rfl, p0, -, -, hr, hg⟩
        have D8 := Lib.hid (D7.out.pick hr hg)
        clear hr hg
        by_cases hp0 : 0 < p
        rotate_left
        · go_wp2_with fail
          go_ret2
          exact ⟨N, _, net, rfl, hN1, hN2, by rw [HLN.out]; exact hln6, H6.out, D8.out.mono (by omega)⟩
        have hsz8 := D8.out.size
        go_wp2_with fail
        go_loopw [8, 9] (fun g i wr => ∃ (k : Nat) (gs : List (List T3)), k ≤ ln ∧ i = .int .i64 k ∧ gs.length ≤ k ∧ (∀ xs ∈ gs, xs.length ≤ 6) ∧ NetB w.heap.size wr g gs ∧ (∀ j, g.ownBlock = some j → w8.heap.size ≤ j) ∧ Below w8.heap.size w8 wr) (fun _ i _ => ln - (intOf i).toNat)
        case atStart => exact ⟨0, [], by omega, rfl, by simp, fun xs hx => by (cases hx), NetB.nil hsz8, fun j hj => by injection hj with hj; exact Nat.le_of_eq hj, below_alloc (Below.refl _ _) _⟩
        case round =>
          obtain ⟨k, gs, hk, rfl, hgl, hg6, hnb, hge, hbr⟩ := hrel
          have HGL := Lib.hid hgl
          have HG6 := Lib.hid hg6
          have HNB := Lib.hid hnb
          have HGE := Lib.hid hge
          have HBR := Lib.hid hbr
          clear hgl hg6 hnb hge
          by_cases hkl : k < ln
          · obtain ⟨bb, off, sA, sn, sc, zs, rfl, hz, hcell, hsl, ho, hlt⟩ := D8.out.2.2.2.at_ HLN.out hbr hkl
            have hkz : (k : Int) < (ln : Int) := by omega
            have hz6 := H6.out zs (List.mem_of_getElem? hz)
            have HO := Lib.hid ho
            have HLT := Lib.hid hlt
            have HSV := Lib.hid (specStopsValid_any sA N sn sc zs wr hsl (by rw [← hsl.len]; omega) (by omega) (by omega))
            clear hz hsl ho hlt hbr
            go_wp2_with fail
            refine HSV.out.mono ?_
            intro e w9 hp
            by_cases hv : StopsOk N zs
            · obtain ⟨rfl, hb⟩ := hp.yes hv
              have hcell9 := cell_keep hb hcell
              obtain ⟨ss, g1, g2, g3⟩ := HNB.out.below hb
              have G1 := Lib.hid g1
              have G2 := Lib.hid g2
              have G3 := Lib.hid g3
              have HO9 := Lib.hid (OwnE.below HO.out hb (Nat.le_refl _))
              have B9 := Lib.hid (HBR.out.trans (hb.mono HBR.out.size))
              have hsz9 := Nat.le_trans hsz8 B9.out.size
              have hss : ss.length ≤ 6 := by rw [g2]; have := HGL.out; omega
              clear hp hb hv g1 g2 g3 hcell
              go_wp2_with (at_builtin; refine wpList_push_at 1 24 50 encW encW_len encW_one (by omega) ⟨sA, sn, sc⟩ _ _ rfl rfl _ _ _ rfl Tryz.underlying45 info_tt rfl w.heap.size _ ss rfl rfl rfl G1.out (by omega) (by unfold maxLen; omega) hsz9 ?_; intro v' w' hown' hg' hl'; have NB := Lib.hid (NetB.push (s := ⟨sA, sn, sc⟩) G1.out G2.out G3.out HO9.out (fun i hi e => Nat.lt_irrefl _ (Nat.lt_of_lt_of_le (HLT.out i hi) (HGE.out i e))) hown' hg' hl'); have GE := Lib.hid (ge_next HGE.out hl' B9.out.size); have BR := Lib.hid (B9.out.grown hg' B9.out.size (fun j hj => HGE.out j hj)); clear hown' hg' hl')
              exact ⟨⟨k + 1, _, by omega, by push_cast; rfl, by rw [List.length_append]; exact Nat.succ_le_succ HGL.out, all6_push HG6.out hz6, NB.out, GE.out, BR.out⟩, by simp only [intOf]; omega⟩
            · obtain ⟨rfl, hb⟩ := hp.no hv
              have NB := Lib.hid (HNB.out.below hb)
              have B9 := Lib.hid (HBR.out.trans (hb.mono HBR.out.size))
              clear hp hb hv hcell
              go_wp2_with fail
              exact ⟨⟨k + 1, gs, by omega, by push_cast; rfl, Nat.le_succ_of_le HGL.out, HG6.out, NB.out, HGE.out, B9.out⟩, by simp only [intOf]; omega⟩
          · obtain rfl : k = ln := by omega
            clear hbr
            go_wp2_with fail
            go_ret2
            exact ⟨N, _, gs, rfl, hN1, hN2, Nat.le_trans HGL.out hln6, HG6.out, (show DGN w R _ _ gs wr from ⟨D8.out.1, D8.out.2.1.below HBR.out (Nat.le_refl _), grown_below D8.out.2.2.1 HBR.out, HNB.out⟩).mono (by omega)⟩
end Go.Proofs.YtgjllminidlolaaGreatDoor
