/- Texts of mine in one: QWalkE QWalkF. -/
import Derived.Test.YtgjllminidlolaaGreatDoorVAU
/- Contracts: PostWay of the reference, and what it writes of rides. -/
set_option linter.unusedVariables false
namespace Go.Proofs.YtgjllminidlolaaGreatDoor
open Go.RowKit

theorem cells3_any {W W' : World} {row : Option Nat} {g i j l : Nat} {a b c : Value} (hg : W.grownBy W' row) (h : W.cell? ⟨g, i, none⟩ = some a ∧ W.cell? ⟨g, j, none⟩ = some b ∧ W.cell? ⟨g, l, none⟩ = some c) (hr : row ≠ some g) : W'.cell? ⟨g, i, none⟩ = some a ∧ W'.cell? ⟨g, j, none⟩ = some b ∧ W'.cell? ⟨g, l, none⟩ = some c :=
  ⟨by rw [grown_cell hg (World.block_lt_of_cell? W _ h.1) hr]; exact h.1, by rw [grown_cell hg (World.block_lt_of_cell? W _ h.2.1) hr]; exact h.2.1, by rw [grown_cell hg (World.block_lt_of_cell? W _ h.2.2) hr]; exact h.2.2⟩
set_option maxRecDepth 20000 in
set_option maxHeartbeats 6400000 in
theorem specPostWay_any (A : Option Addr) (n : Int) (m cap : Nat) (net : List (List T3)) (s0 tw t0 ch : Int) (w : World) (h : NetS w A m net) (hm : m ≤ 16777216) (hl : NetLen net) (h1 : -1000000 ≤ n) (h2 : n ≤ 1000000) :
    Calls Tryz.prog 152 #[.int .i64 n, .slice A m cap, .int .i64 s0, .int .i64 tw, .int .i64 t0, .int .i64 ch] w (WayRet n net s0 tw t0 ch w) := by
  have OE := Lib.hid (own_new (enc := enc3) (k := 3) w 211 w.heap.size (Nat.le_refl _) enc3_len [] #[] rfl (by simp) rfl)
  have BE := Lib.hid (below_alloc (Below.refl w.heap.size w) (.cells #[] 211))
  have HPA := Lib.hid (fun W (hW : Below w.heap.size w W) => specPostArrive_any A n m cap net s0 tw t0 ch W (h.below hW) hm hl h1 h2)
  have H := Lib.hid h
  clear h hm hl
  by_cases hv : 0 ≤ postV n net s0 tw t0 ch
  rotate_left
  · have hd : decide (0 ≤ postV n net s0 tw t0 ch) = false := by simp [hv]
    have hr : rideV n net s0 tw t0 ch = [] := by unfold rideV; rw [backV_no (by omega)]; rfl
    have HE := Lib.hid (show ∀ e w', RetOwnB 3 enc3 211 [] false w e w' → WayRet n net s0 tw t0 ch w e w' from fun e w' h => by unfold WayRet; rw [hr, hd]; exact h)
    have hv2 : postV n net s0 tw t0 ch < 0 := by omega
    clear hv hd hr
    generalize postV n net s0 tw t0 ch = u at *
    go_enter Tryz.func152, Tryz.ntmps152
    go_wp2_with fail
    refine (HPA.out _ BE.out).mono ?_
    rintro e w1 ⟨rfl, hb1⟩
    have HB1 := Lib.hid (below_trans BE.out hb1)
    have O1 := Lib.hid (OE.out.below hb1 (Nat.le_refl _))
    clear hb1
    go_wp2_with fail
    go_ret2
    exact HE.out _ _ ⟨_, rfl, O1.out, HB1.out⟩
  have hd : decide (0 ≤ postV n net s0 tw t0 ch) = true := by simp [hv]
  obtain ⟨hq, ht, -⟩ := postV_pos hv
  have HBV := Lib.hid (backV_yes hv)
  have hbl : (backV n net s0 tw t0 ch).length ≤ 8 := by
    have h8 := hq.1.2.1
    obtain ⟨k, rfl⟩ : ∃ k : Nat, n = k := ⟨n.toNat, by have := hq.1.1; omega⟩
    have h1 := (@rideV_facts k net s0 t0 ch tw).1
    unfold rideV at h1
    rw [List.length_reverse] at h1
    exact h1
  have HE := Lib.hid (show ∀ e w', RetOwnB 3 enc3 211 (backV n net s0 tw t0 ch).reverse true w e w' → WayRet n net s0 tw t0 ch w e w' from fun e w' h => by unfold WayRet; rw [hd]; exact h)
  have HQ := Lib.hid hq
  have hvz : ¬ postV n net s0 tw t0 ch < 0 := by omega
  have hft0 : 0 ≤ tblV net s0 t0 ch tw := by rw [← postV_yes hq ht]; exact hv
  have hn1 := hq.1.1
  have hs0 := hq.2.1
  clear hd hq
  obtain ⟨n, rfl⟩ : ∃ k : Nat, n = k := ⟨n.toNat, by omega⟩
  obtain ⟨s0, rfl⟩ : ∃ k : Nat, s0 = k := ⟨s0.toNat, by omega⟩
  obtain ⟨tw, rfl⟩ : ∃ k : Nat, tw = k := ⟨tw.toNat, by omega⟩
  generalize backV (n : Int) net (s0 : Int) (tw : Int) t0 ch = L at *
  generalize postV (n : Int) net (s0 : Int) (tw : Int) t0 ch = u at *
  have HTN := Lib.hid (show tw < n by omega)
  have HTF := Lib.hid (rounds_table HQ.out.ok (n + 1) (Nat.le_succ n))
  have HLT := Lib.hid (fun W (hW : Below w.heap.size w W) => l7Table_any A n m cap net s0 t0 ch W (H.out.below hW) HQ.out.ok)
  obtain ⟨f', hf'⟩ : ∃ f', roundsP (s0 : Int) t0 ch net (n + 1) = f' := ⟨_, rfl⟩
  rw [hf'] at HTF HLT
  have hfe : f' = tblV net (s0 : Int) t0 ch := funext fun v => tblV_eq HQ.out.ok HTF.out v
  have HBV2 := Lib.hid (show BackP net f' (s0 : Int) ch (tw : Int) L by rw [hfe]; exact HBV.out)
  have HF1 := Lib.hid (show 0 ≤ f' (tw : Int) by rw [hfe]; exact hft0)
  clear hv ht hft0 hf' hfe HBV
  go_enter Tryz.func152, Tryz.ntmps152
  go_wp2_with fail
  refine (HPA.out _ BE.out).mono ?_
  rintro e w0 ⟨rfl, hb0⟩
  have HB0 := Lib.hid (below_trans BE.out hb0)
  have O0 := Lib.hid (OE.out.below hb0 (Nat.le_refl _))
  clear hb0 HPA
  go_wp2_with fail
  refine (HLT.out _ HB0.out).mono ?_
  rintro e w2 ⟨hb2, T, ct, rfl, htb, hT⟩
  have HB2 := Lib.hid (below_trans HB0.out hb2)
  have TB := Lib.hid htb
  have O2 := Lib.hid (O0.out.below hb2 (Nat.le_refl _))
  have HN2 := Lib.hid (H.out.below HB2.out)
  have HW2 := Lib.hid (show w.heap.size ≤ w2.heap.size from HB2.out.size)
  clear hb2 htb hT HLT O0 OE BE HB0
  obtain ⟨W2, rfl⟩ : ∃ W, W = w2 := ⟨_, rfl⟩
  go_wp2_with fail
  go_loopg [3, 14] L.length (fun k t v wr => ∃ (l1 l2 : List T3) (tt : Nat), l2.length = k ∧ L = l1 ++ l2 ∧ t = .int .i64 tt ∧ tt < n ∧ 0 ≤ f' (tt : Int) ∧ BackP net f' (s0 : Int) ch (tt : Int) l2 ∧ OwnE 3 enc3 211 w.heap.size wr v l1.reverse ∧ Below W2.heap.size W2 wr)
  case atStart => exact ⟨[], L, tw, rfl, rfl, rfl, HTN.out, HF1.out, HBV2.out, O2.out, Below.refl _ _⟩
  case round =>
    obtain ⟨l1, l2, tt, hk, hL, rfl, htt, hf0, hbp, hown, hbr⟩ := hrel
    have HK := Lib.hid hk
    have HL := Lib.hid hL
    have HF0 := Lib.hid hf0
    have HR := Lib.hid hbr
    have HO := Lib.hid hown
    have HRW := Lib.hid (HB2.out.trans (hbr.mono HW2.out))
    have hl1 : l1.length ≤ 8 := by rw [hL, List.length_append] at hbl; omega
    have HL1 := Lib.hid hl1
    clear hk hL hf0 hbr hown hl1
    rcases back_inv hbp with ⟨hnil, hts⟩ | ⟨c, i, k2, xs, p, l', hl2, hne, hlp, hx, hp, hbp2⟩
    · have HNIL := Lib.hid hnil
      have dn : ((tt : Int) != (s0 : Int)) = false := by simp [hts]
      have HEQ := Lib.hid (show l1 = L by rw [HL.out, HNIL.out, List.append_nil])
      clear hbp hnil hts
      go_wp2_with fail
      go_ret2
      exact HE.out _ _ ⟨_, rfl, by rw [← HEQ.out]; exact HO.out, HRW.out⟩
    · have dn : ((tt : Int) != (s0 : Int)) = true := by simpa using hne
      have HLR := Lib.hid (l7Last_any (cN := cap) (ct := ct) wr (TB.out.below HR.out) (HN2.out.below HR.out) HQ.out.ok HTF.out tt htt c i k2 hlp)
      have hlf := last_facts HQ.out.1 HQ.out.2.2.2.1 hlp hx hp
      have HLF := Lib.hid hlf
      have HX := Lib.hid hx
      have HP := Lib.hid hp
      have HBP := Lib.hid hbp2
      have HL2 := Lib.hid hl2
      have hcm : c < m := by have := hlf.1; rw [H.out.len] at this; exact this
      clear hbp hl2 hne hlp hx hp hbp2 hlf
      obtain ⟨r1, hr1⟩ : ∃ r1 : Int, (c : Int) = r1 := ⟨_, rfl⟩
      obtain ⟨r2, hr2⟩ : ∃ r2 : Int, (i : Int) = r2 := ⟨_, rfl⟩
      obtain ⟨r3, hr3⟩ : ∃ r3 : Int, (k2 : Int) = r3 := ⟨_, rfl⟩
      clear r1 hr1 r2 hr2 r3 hr3
      go_wp2_with fail
      refine HLR.out.mono ?_
      rintro e w3 ⟨rfl, hb3⟩
      have HO3 := Lib.hid (HO.out.below hb3 (Nat.le_refl _))
      have HR3 := Lib.hid (HR.out.trans (hb3.mono HR.out.size))
      have hsz3 := HR3.out.size
      clear hb3 HLR HO HR HRW
      obtain ⟨w4, hw4⟩ : ∃ w4, w3.alloc (.cells #[.int .i64 (c : Int), .int .i64 (i : Int), .int .i64 (k2 : Int)] 211) = w4 := ⟨_, rfl⟩
      have hsz4 : w4.heap.size = w3.heap.size + 1 := by rw [← hw4]; simp
      have hbw4 : Below w3.heap.size w3 w4 := by rw [← hw4]; exact below_alloc (Below.refl w3.heap.size w3) _
      have HR4 := Lib.hid (HR3.out.trans (hbw4.mono hsz3))
      have HC4 := Lib.hid (show w4.cell? ⟨w3.heap.size, 0, none⟩ = some (.int .i64 (c : Int)) ∧ w4.cell? ⟨w3.heap.size, 1, none⟩ = some (.int .i64 (i : Int)) ∧ w4.cell? ⟨w3.heap.size, 2, none⟩ = some (.int .i64 (k2 : Int)) by rw [← hw4]; exact ⟨by simp, by simp, by simp⟩)
      have hsz4b : W2.heap.size ≤ w4.heap.size := by rw [hsz4]; omega
      have O5 := Lib.hid (own_new (enc := enc3) (k := 3) w4 211 W2.heap.size hsz4b enc3_len [⟨(c : Int), (i : Int), (k2 : Int)⟩] #[.int .i64 (c : Int), .int .i64 (i : Int), .int .i64 (k2 : Int)] rfl (by unfold maxLen; simp) (n := 1) rfl)
      have B5 := Lib.hid (below_alloc HR4.out (.cells #[.int .i64 (c : Int), .int .i64 (i : Int), .int .i64 (k2 : Int)] 211))
      obtain ⟨q3, hq3⟩ : ∃ q3, l1.reverse.length = q3 := ⟨_, rfl⟩
      have hq8 : q3 ≤ 8 := by rw [← hq3, List.length_reverse]; exact HL1.out
      obtain ⟨A3, c3, rfl, hsl3, -⟩ := HO3.out.slc enc3_len hq3
      have SL5 := Lib.hid ((hsl3.below hbw4).alloc (.cells #[.int .i64 (c : Int), .int .i64 (i : Int), .int .i64 (k2 : Int)] 211))
      have hc40 : (w4.alloc (.cells #[.int .i64 (c : Int), .int .i64 (i : Int), .int .i64 (k2 : Int)] 211)).heap.size = w4.heap.size + 1 := by simp
      have HZ4 := Lib.hid (And.intro hsz4 hc40)
      have HSZB := Lib.hid (show W2.heap.size ≤ (w4.alloc (.cells #[.int .i64 (c : Int), .int .i64 (i : Int), .int .i64 (k2 : Int)] 211)).heap.size by rw [hc40]; omega)
      have HW4 := Lib.hid hw4
      clear hsz4 hbw4 hsz4b hsl3 hc40 hq3 HO3
      obtain ⟨d0, d1, d2⟩ := HC4.out
      go_wp2_with (at_builtin; refine wpList_cat (bytes := 24) (base := W2.heap.size) (xs := [⟨(c : Int), (i : Int), (k2 : Int)⟩]) (ys := l1.reverse) enc3_len enc3_one (by omega) rfl _ _ _ rfl Tryz.underlying207 info_ride rfl _ rfl O5.out rfl SL5.out (by simp; omega) (by simp [maxLen]; omega) HSZB.out ?_; intro v' w' hown' hg'; have HO' := Lib.hid (hown'.base_le HW2.out); have HG' := Lib.hid hg'; have HR5 := Lib.hid (below_grown B5.out hg' O5.out (Nat.le_refl _)); clear hown' hg')
      have q0 : w'.cell? ⟨w3.heap.size, 0, none⟩ = some (.int .i64 (c : Int)) := by rw [grown_cell HG'.out (by rw [HZ4.out.2, HZ4.out.1]; omega) (fun e => by have e : some w4.heap.size = some w3.heap.size := e; injection e with e; have := HZ4.out.1; omega), World.cell?_alloc_lt _ _ _ (by rw [HZ4.out.1]; exact Nat.lt_succ_self _)]; exact d0
      have q1 : w'.cell? ⟨w3.heap.size, 1, none⟩ = some (.int .i64 (i : Int)) := by rw [grown_cell HG'.out (by rw [HZ4.out.2, HZ4.out.1]; omega) (fun e => by have e : some w4.heap.size = some w3.heap.size := e; injection e with e; have := HZ4.out.1; omega), World.cell?_alloc_lt _ _ _ (by rw [HZ4.out.1]; exact Nat.lt_succ_self _)]; exact d1
      obtain ⟨bb, off, A', n', c', zs, rfl, hbl, hcell, hz, hsl, hnc⟩ := HN2.out.at_ HR5.out hcm
      obtain rfl : zs = xs := by rw [HX.out] at hz; exact (Option.some.inj hz).symm
      have hin : i < n' := by
        have := (List.getElem?_eq_some_iff.1 HP.out).1
        rw [hsl.len] at this
        exact this
      obtain ⟨b2, off2, px, py, pz, rfl, hbl2, hpx, -, r0, r1, r2⟩ := at3 hsl HR5.out hin
      obtain rfl : p = ⟨px, py, pz⟩ := by rw [HP.out] at hpx; exact Option.some.inj hpx
      obtain ⟨-, -, -, f0, f1, f2, -⟩ := HLF.out
      dsimp only at f0 f1 f2
      obtain ⟨px, rfl⟩ : ∃ k : Nat, px = k := ⟨px.toNat, by omega⟩
      have z0 : (0 : Int) ≤ (c : Int) ∧ (c : Int) < (m : Int) := by omega
      have z1 : (0 : Int) ≤ (i : Int) ∧ (i : Int) < (n' : Int) := by omega
      obtain ⟨z0, z2⟩ := z0
      obtain ⟨z1, z3⟩ := z1
      have HF2 := Lib.hid (show px < n ∧ 0 ≤ f' (px : Int) from ⟨by omega, f2⟩)
      have HREV := Lib.hid (show (l1 ++ ([⟨(c : Int), (i : Int), (k2 : Int)⟩] : List T3)).reverse = ([⟨(c : Int), (i : Int), (k2 : Int)⟩] : List T3) ++ l1.reverse by rw [List.reverse_append]; rfl)
      clear hz hpx d0 d1 d2 f0 f1 f2 hw4
      go_wp2_with fail
      go_region
      go_wp2_with fail
      go_roundg l'.length
      case measure => have := HK.out; rw [HL2.out, List.length_cons] at this; omega
      case rel => exact ⟨l1 ++ [⟨(c : Int), (i : Int), (k2 : Int)⟩], l', px, rfl, by rw [HL.out, HL2.out, List.append_assoc]; rfl, rfl, HF2.out.1, HF2.out.2, HBP.out, by rw [HREV.out]; exact OwnE.drew HO'.out, below_drew HR5.out⟩
set_option maxRecDepth 20000 in
set_option maxHeartbeats 6400000 in
theorem l10Ride_any (An : Option Addr) (m0 cn : Nat) (B : Option Addr) (c : Nat) (net : List (List T3)) (x y z u : Int) (W : World) (h : NetS W An m0 net) (hn : m0 ≤ 1000) (hll : NetLen net) (hN : SlE 1 encI W B 4 [x, y, z, u]) :
    Calls Tryz.prog 114 #[.slice An m0 cn, .slice B 4 c] W (Only (.string (bs (saidL (ridesL (rideV 6 net x y z u)) (decide (0 ≤ postV 6 net x y z u))))) W) := by
  obtain ⟨bb, off, rfl, g0, g1, g2, g3⟩ := num4 hN
  have hrf : (rideV 6 net x y z u).length ≤ 8 ∧ ∀ r ∈ rideV 6 net x y z u, RideBd r := rideV_facts (n := 6)
  have HF := Lib.hid (show ∀ W', Below W.heap.size W W' → Calls Tryz.prog 152 #[.int .i64 6, .slice An m0 cn, .int .i64 x, .int .i64 y, .int .i64 z, .int .i64 u] W' (RetOwnB 3 enc3 211 (rideV 6 net x y z u) (decide (0 ≤ postV 6 net x y z u)) W') from
    fun W' hW' => specPostWay_any An 6 m0 cn net x y z u W' (h.below hW') (by omega) hll (by omega) (by omega))
  generalize rideV 6 net x y z u = rs at *
  generalize decide (0 ≤ postV 6 net x y z u) = bv at *
  have HRF := Lib.hid hrf
  have HC0 := Lib.hid (show W.cell? ⟨bb, off, none⟩ = some (.int .i64 x) ∧ W.cell? ⟨bb, off + 1, none⟩ = some (.int .i64 y) ∧ W.cell? ⟨bb, off + 2, none⟩ = some (.int .i64 z) ∧ W.cell? ⟨bb, off + 3, none⟩ = some (.int .i64 u) from ⟨g0, g1, g2, g3⟩)
  clear hN h hll hrf
  go_enter Tryz.func114, Tryz.ntmps114
  go_wp2_with fail
  go_region_held3 (fun w' => w'.cell? ⟨bb, off, none⟩ = some (.int .i64 x) ∧ w'.cell? ⟨bb, off + 1, none⟩ = some (.int .i64 y) ∧ w'.cell? ⟨bb, off + 2, none⟩ = some (.int .i64 z) ∧ w'.cell? ⟨bb, off + 3, none⟩ = some (.int .i64 u))
    (first | exact HC0.out | exact CZ2.out | fail)
    (first
      | (go_at_call 152; (with_reducible_and_instances refine (HF.out _ (below_drew (Below.refl W.heap.size W))).mono ?_); rintro e w2 ⟨v, rfl, hown, hb2⟩; have HB2 := Lib.hid ((below_drew (Below.refl W.heap.size W)).trans hb2); have CZ2 := Lib.hid (cells4_below hb2 (show W.drew.cell? ⟨bb, off, none⟩ = some (.int .i64 x) ∧ W.drew.cell? ⟨bb, off + 1, none⟩ = some (.int .i64 y) ∧ W.drew.cell? ⟨bb, off + 2, none⟩ = some (.int .i64 z) ∧ W.drew.cell? ⟨bb, off + 3, none⟩ = some (.int .i64 u) from HC0.out)); have HO2 := Lib.hid hown; clear hb2 hown)
      | fail)
  clear g0 g1 g2 g3 HC0 CZ2 HF
  obtain ⟨m, hm⟩ : ∃ m, rs.length = m := ⟨_, rfl⟩
  obtain ⟨A2, c2, rfl, hsl2, -⟩ := HO2.out.slc enc3_len hm
  have HSL2 := Lib.hid hsl2
  have HM := Lib.hid hm
  have hm8 : m ≤ 8 := by rw [← hm]; exact HRF.out.1
  clear hsl2 hm HO2
  have OE := Lib.hid (own_new (enc := encS) (k := 1) w2 9 w2.heap.size (Nat.le_refl _) encS_len [] #[] rfl (by simp) rfl)
  obtain ⟨W2, rfl⟩ : ∃ W2, W2 = w2 := ⟨_, rfl⟩
  go_wp2_with fail
  go_loopw [7, 8] (fun v i wr => ∃ k : Nat, k ≤ m ∧ i = .int .i64 k ∧ OwnE 1 encS 9 W2.heap.size wr v ((rs.take k).map rideS) ∧ Below W2.heap.size W2 wr) (fun _ i _ => m - (intOf i).toNat)
  case atStart => exact ⟨0, by omega, rfl, OE.out, below_alloc (Below.refl _ _) _⟩
  case round =>
    obtain ⟨k, hk, rfl, hown, hbr⟩ := hrel
    have HO := Lib.hid hown
    have HR := Lib.hid hbr
    have hsz := hbr.size
    clear hown hbr OE
    by_cases hkm : k < m
    rotate_left
    · obtain rfl : k = m := by omega
      rw [List.take_of_length_le (by rw [HM.out]; exact Nat.le_refl _)] at HO
      obtain ⟨A3, c3, rfl, hsl3, -⟩ := HO.out.slc encS_len (n := k) (by rw [List.length_map]; exact HM.out)
      have HWD := Lib.hid (l10Words_any A3 k c3 (rs.map rideL) wr (by rw [List.map_map]; exact hsl3) (by omega) (fun l hl => by
        obtain ⟨r, hr, rfl⟩ := List.mem_map.1 hl
        exact Nat.le_trans (rideL_len (HRF.out.2 r hr)) (by decide)))
      rw [show Lib.join (rs.map rideL) [32] = ridesL rs from rfl] at HWD
      have HSD := Lib.hid (fun W => l10Said_any (ridesL rs) bv W (by have := ridesBd_len HRF.out.1 HRF.out.2; omega))
      clear hsl3 HO
      generalize bs (saidL (ridesL rs) bv) = T1 at *
      generalize bs (ridesL rs) = T0 at *
      go_wp2_with fail
      refine HWD.out.mono ?_
      rintro e w3 ⟨rfl, hb3⟩
      have HB3 := Lib.hid (HR.out.trans (hb3.mono hsz))
      clear hb3 HWD
      go_wp2_with fail
      refine (HSD.out _).mono ?_
      rintro e w4 ⟨rfl, hb4⟩
      have HB4 := Lib.hid (below_trans HB2.out (below_trans HB3.out hb4))
      clear hb4
      go_wp2_with fail
      go_ret
      exact ⟨rfl, HB4.out⟩
    · obtain ⟨b2, off2, a1, a2, a3, rfl, hbl, hx, -, r0, r1, r2⟩ := at3 HSL2.out HR.out hkm
      have HBL := Lib.hid (show b2 < W2.heap.size by
        obtain ⟨b', off', hA, hlt, -⟩ := HSL2.out.2 (by omega)
        injection hA with hA
        injection hA with hA
        rw [hA]
        exact hlt)
      have hob := HRF.out.2 _ (mem_at hx)
      unfold RideBd at hob
      dsimp only at hob
      obtain ⟨a1, rfl⟩ : ∃ i : Nat, a1 = i := ⟨a1.toNat, by omega⟩
      obtain ⟨a2, rfl⟩ : ∃ i : Nat, a2 = i := ⟨a2.toNat, by omega⟩
      obtain ⟨a3, rfl⟩ : ∃ i : Nat, a3 = i := ⟨a3.toNat, by omega⟩
      have hw1 := decDigits_len 1 a1 (by omega) (by omega)
      have hw2 := decDigits_len 1 a2 (by omega) (by omega)
      have hw3 := decDigits_len 1 a3 (by omega) (by omega)
      have HTN := Lib.hid (rideL_nat (x := a1) (y := a2) (z := a3))
      have HD1 := Lib.hid (fun W => l6Dec_any a1 W (by omega))
      have HD2 := Lib.hid (fun W => l6Dec_any a2 W (by omega))
      have HD3 := Lib.hid (fun W => l6Dec_any a3 W (by omega))
      have B1 := Lib.hid (below_drew (Below.refl wr.heap.size wr))
      have HC0 := Lib.hid (show wr.drew.cell? ⟨b2, off2 + k * 3, none⟩ = some (.int .i64 (a1 : Int)) ∧ wr.drew.cell? ⟨b2, off2 + k * 3 + 1, none⟩ = some (.int .i64 (a2 : Int)) ∧ wr.drew.cell? ⟨b2, off2 + k * 3 + 2, none⟩ = some (.int .i64 (a3 : Int)) from ⟨r0, r1, r2⟩)
      have HLJ := Lib.hid (show ((rs.take k).map rideS).length = k by rw [List.length_map, List.length_take, HM.out]; omega)
      have HNX := Lib.hid (show (rs.take (k + 1)).map rideS = (rs.take k).map rideS ++ [bs (rideL ⟨(a1 : Int), (a2 : Int), (a3 : Int)⟩)] by rw [take_next hx, List.map_append]; rfl)
      have HOF := Lib.hid (fun W (hW : Below wr.heap.size wr W) => OwnE.below HO.out hW (Nat.le_refl _))
      have HWZ := Lib.hid hsz
      clear hx hob
      have ad1 : ∀ W, (Op.stringOp .add (bs (Lib.decDigits a1)) ⟨#[58]⟩).run Tryz.prog W = .ok (.string (bs (Lib.decDigits a1 ++ [58]))) W := add_lists (Lib.decDigits a1) [58] (Nat.le_trans hw1 (by decide)) (by decide)
      have lad1 := lj_app hw1 (show ([58] : List UInt8).length ≤ 1 from Nat.le_refl _)
      have ad2 : ∀ W, (Op.stringOp .add (bs (Lib.decDigits a1 ++ [58])) (bs (Lib.decDigits a2))).run Tryz.prog W = .ok (.string (bs (Lib.decDigits a1 ++ [58] ++ Lib.decDigits a2))) W := add_lists (Lib.decDigits a1 ++ [58]) (Lib.decDigits a2) (Nat.le_trans lad1 (by decide)) (Nat.le_trans hw2 (by decide))
      have lad2 := lj_app lad1 hw2
      have ad3 : ∀ W, (Op.stringOp .add (bs (Lib.decDigits a1 ++ [58] ++ Lib.decDigits a2)) ⟨#[45]⟩).run Tryz.prog W = .ok (.string (bs (Lib.decDigits a1 ++ [58] ++ Lib.decDigits a2 ++ [45]))) W := add_lists (Lib.decDigits a1 ++ [58] ++ Lib.decDigits a2) [45] (Nat.le_trans lad2 (by decide)) (by decide)
      have lad3 := lj_app lad2 (show ([45] : List UInt8).length ≤ 1 from Nat.le_refl _)
      have ad4 : ∀ W, (Op.stringOp .add (bs (Lib.decDigits a1 ++ [58] ++ Lib.decDigits a2 ++ [45])) (bs (Lib.decDigits a3))).run Tryz.prog W = .ok (.string (bs (rideL ⟨(a1 : Int), (a2 : Int), (a3 : Int)⟩))) W := fun W => by
        rw [HTN.out]
        exact add_lists (Lib.decDigits a1 ++ [58] ++ Lib.decDigits a2 ++ [45]) (Lib.decDigits a3) (Nat.le_trans lad3 (by decide)) (Nat.le_trans hw3 (by decide)) W
      clear lad1 lad2 lad3 hw1 hw2 hw3 HTN
      generalize hTN : bs (rideL ⟨(a1 : Int), (a2 : Int), (a3 : Int)⟩) = TN at *
      clear hTN
      generalize bs (Lib.decDigits a1 ++ [58] ++ Lib.decDigits a2 ++ [45]) = T2 at *
      generalize bs (Lib.decDigits a1 ++ [58] ++ Lib.decDigits a2) = T1 at *
      generalize bs (Lib.decDigits a1 ++ [58]) = T0 at *
      generalize bs (Lib.decDigits a1) = D1 at *
      generalize bs (Lib.decDigits a2) = D2 at *
      generalize bs (Lib.decDigits a3) = D3 at *
      generalize (rs.take k).map rideS = qs at *
      have N1 := Lib.hid (show (qs.length + 1) * 16 ≤ 140737488355328 ∧ qs.length + 1 ≤ maxLen by rw [HLJ.out]; unfold maxLen; omega)
      go_wp2_with fail
      go_region_held3 (fun w' => w'.cell? ⟨b2, off2 + k * 3, none⟩ = some (.int .i64 (a1 : Int)) ∧ w'.cell? ⟨b2, off2 + k * 3 + 1, none⟩ = some (.int .i64 (a2 : Int)) ∧ w'.cell? ⟨b2, off2 + k * 3 + 2, none⟩ = some (.int .i64 (a3 : Int)))
        (first | exact HC0.out | exact CZ2.out | exact CZ3.out | exact CZ4.out | exact CZ5.out | exact CZ6.out | fail)
        (first
          | (go_at_call 41; have HQ := HB3; (with_reducible_and_instances refine (HD3.out _).mono ?_); rintro e w4 ⟨rfl, hb4⟩; have HB4 := Lib.hid (below_trans HB3.out hb4); have CZ4 := Lib.hid (cells3_below hb4 CZ3.out); have OA := Lib.hid ((HOF.out w4 HB4.out).alloc (.cells #[.string TN] 9)); have SN := Lib.hid (slE_new (enc := encS) (k := 1) w4 9 encS_len [TN] #[.string TN] rfl (by unfold maxLen; simp) (n := 1) rfl (g := w4.heap.size) rfl); have BA := Lib.hid (below_alloc HB4.out (.cells #[.string TN] 9)); have XA := Lib.hid (Nat.le_trans HWZ.out BA.out.size); have CZ5 := Lib.hid (cells3_below (below_alloc (Below.refl _ w4) (.cells #[.string TN] 9)) CZ4.out); clear hb4)
          | (go_at_call 41; have HQ := HBQ; (with_reducible_and_instances refine (HD2.out _).mono ?_); rintro e w3 ⟨rfl, hb3⟩; have HB3 := Lib.hid (below_trans HBQ.out hb3); have CZ3 := Lib.hid (cells3_below hb3 CZ2.out); clear hb3)
          | (go_at_call 41; (with_reducible_and_instances refine (HD1.out _).mono ?_); rintro e w2 ⟨rfl, hb2⟩; have HBQ := Lib.hid (below_trans B1.out hb2); have CZ2 := Lib.hid (cells3_below hb2 HC0.out); clear hb2)
          | (go_loud (refine step_cat (bytes := 16) (base := W2.heap.size) encS_len encS_one (Nat.succ_pos 0) rfl (.tmp 33) (.tmp 56) _ rfl Tryz.underlying60 info_str rfl _ qs rfl OA.out rfl SN.out N1.out.1 N1.out.2 XA.out ?_; intro v2 w5 hown2 hg2; have O5 := Lib.hid hown2; have B5 := Lib.hid ((HR.out.trans (BA.out.mono HWZ.out)).grown hg2 XA.out (fun j hj => (OA.out.lt j hj).1)); have CZ6 := Lib.hid (cells3_any hg2 CZ5.out (fun e => by have := (OA.out.lt _ e).1; have := HBL.out; omega)); clear hown2 hg2))
          | fail)
      go_wp2_with fail
      go_roundw
      case rel => exact ⟨k + 1, by omega, by go_num, by rw [HNX.out]; exact O5.out, B5.out⟩
      case measure => simp [intOf]; omega
end Go.Proofs.YtgjllminidlolaaGreatDoor
/- Contracts: PostAdd of the reference, and the coach of a line. -/
set_option linter.unusedVariables false
namespace Go.Proofs.YtgjllminidlolaaGreatDoor
open Go.RowKit

theorem net_keep {base : Nat} {W W' : World} {v : Value} {ss : List Slv} {net : List (List T3)} (h : ∀ (j : Nat) (s : Slv) xs, ss[j]? = some s → net[j]? = some xs → OwnE 3 enc3 103 base W s.v xs ∧ ∀ i, s.v.ownBlock = some i → v.ownBlock ≠ some i) (hb : Below W.heap.size W W') :
    ∀ (j : Nat) (s : Slv) xs, ss[j]? = some s → net[j]? = some xs → OwnE 3 enc3 103 base W' s.v xs ∧ ∀ i, s.v.ownBlock = some i → v.ownBlock ≠ some i :=
  fun j s xs hs hx => ⟨(h j s xs hs hx).1.below hb (Nat.le_refl _), (h j s xs hs hx).2⟩
theorem own_above {base : Nat} {W W' : World} {v v' : Value} {ss : List Slv} {xs : List T3} (h : OwnE 1 encW 50 base W v ss) (h' : OwnE 3 enc3 103 W.heap.size W' v' xs) : ∀ i, v'.ownBlock = some i → v.ownBlock ≠ some i := fun i hi e => by
  have e1 := (h'.lt i hi).1
  have e2 := (h.lt i e).2
  omega
set_option maxRecDepth 20000 in
set_option maxHeartbeats 6400000 in
theorem specPostAdd_any (A B : Option Addr) (n : Int) (m cap len c : Nat) (net : List (List T3)) (xs : List T3) (b : Bool) (ys : List (List T3)) (w : World) (h : NetS w A m net) (hm : m ≤ 1000000) (hl : NetLen net) (hx : SlE 3 enc3 w B len xs) (hlen : len ≤ 16777216) (h1 : -1000000 ≤ n) (h2 : n ≤ 1000000)
    (hb : (b = true ∧ NetOk n (net ++ [xs]) ∧ ys = net ++ [xs]) ∨ (b = false ∧ ¬ NetOk n (net ++ [xs]) ∧ ys = [])) :
    Calls Tryz.prog 110 #[.int .i64 n, .slice A m cap, .slice B len c] w (PostAdded b ys w) := by
  have H := Lib.hid h
  have HL := Lib.hid h.len
  have HLL := Lib.hid hl
  have HX := Lib.hid hx
  have HB := Lib.hid hb
  clear h hl hx hb
  go_enter Tryz.func110, Tryz.ntmps110
  go_wp2_with fail
  go_loopw [8, 9] (fun v i wr => ∃ k : Nat, k ≤ m ∧ i = .int .i64 k ∧ NetB w.heap.size wr v (net.take k) ∧ Below w.heap.size w wr) (fun _ i _ => m - (intOf i).toNat)
  case atStart => exact ⟨0, by omega, rfl, NetB.nil (Nat.le_refl _), below_alloc (Below.refl _ _) _⟩
  case round =>
    obtain ⟨k, hk, rfl, hnb, hbr⟩ := hrel
    have HR := Lib.hid hbr
    have hsz := hbr.size
    have O0 := Lib.hid (own_new (enc := enc3) (k := 3) wr 103 wr.heap.size (Nat.le_refl _) enc3_len [] #[] rfl (by simp) rfl)
    have B0 := Lib.hid (below_alloc (Below.refl wr.heap.size wr) (.cells #[] 103))
    by_cases hkm : k < m
    · obtain ⟨bb, off, A', n', c', zs, rfl, hbl, hcell, hz, hsl, hnc⟩ := H.out.at_ hbr hkm
      have HZ := Lib.hid hz
      have hn' : n' ≤ 16777216 := by have h1 := HLL.out zs (List.mem_of_getElem? hz); rw [hsl.len] at h1; exact h1
      have SZ := Lib.hid ((hsl.below hbr).below B0.out)
      have HZL := Lib.hid hsl.len
      have HNB := Lib.hid hnb
      have hcell2 := cell_below B0.out hcell
      clear hz hsl hnb
      go_wp2_with (at_builtin; first | (refine wpList_cat (bytes := 24) enc3_len enc3_one (by omega) rfl _ _ _ rfl Tryz.underlying50 info_stop rfl _ [] rfl O0.out rfl SZ.out (by simp; omega) (by simp [maxLen]; omega) B0.out.size ?_; intro v1 w2 hown1 hg1; obtain ⟨sA, sc, rfl, -, -⟩ := hown1.slc enc3_len (n := n') (by rw [List.nil_append]; exact HZL.out); have hs := hown1; have hb2 := below_grown B0.out hg1 O0.out (Nat.le_refl _); obtain ⟨ss, h1, h2, h3⟩ := HNB.out; have HS := Lib.hid (show OwnE 3 enc3 103 w.heap.size w2 (Slv.v ⟨sA, n', sc⟩) zs from hs.base_le HR.out.size); have HB2 := Lib.hid (below_trans HR.out hb2); have HSZ := Lib.hid HB2.out.size; have H1 := Lib.hid (h1.below hb2 (Nat.le_refl _)); have H2 := Lib.hid h2; have H3 := Lib.hid (net_keep h3 hb2); have HNS := Lib.hid (show ∀ i, (Slv.v ⟨sA, n', sc⟩).ownBlock = some i → u8.ownBlock ≠ some i from own_above h1 hs); have HLK := Lib.hid (by rw [h2, List.length_take, HL.out]; omega : ss.length = k); clear hs hown1 hg1 hb2 h1 h2 h3) | (refine wpList_push_at 1 24 50 encW encW_len encW_one (by omega) ⟨sA, n', sc⟩ _ _ rfl rfl _ _ _ rfl Tryz.underlying45 info_tt rfl w.heap.size _ ss rfl rfl rfl H1.out (by rw [HLK.out]; omega) (by rw [HLK.out]; unfold maxLen; omega) HSZ.out ?_; intro v' w' hown' hg' hl'; have NB := Lib.hid (NetB.push H1.out H2.out H3.out HS.out HNS.out hown' hg' hl'); have HB' := Lib.hid (below_grown HB2.out hg' H1.out (Nat.le_refl _)); clear hown' hg' hl'))
      refine ⟨⟨k + 1, hkm, by push_cast; rfl, ?_, HB'.out⟩, by simp only [intOf]; omega⟩
      rw [List.take_add_one, HZ.out]
      exact NB.out
    · obtain rfl : k = m := by omega
      have HNB := Lib.hid (show NetB w.heap.size wr u8 net by rw [List.take_of_length_le (by rw [HL.out]; omega)] at hnb; exact hnb)
      have SZ := Lib.hid ((HX.out.below hbr).below B0.out)
      have HZL := Lib.hid HX.out.len
      clear hnb
      go_wp2_with (at_builtin; first | (refine wpList_cat (bytes := 24) enc3_len enc3_one (by omega) rfl _ _ _ rfl Tryz.underlying50 info_stop rfl _ [] rfl O0.out rfl SZ.out (by simp; omega) (by simp [maxLen]; omega) B0.out.size ?_; intro v1 w2 hown1 hg1; obtain ⟨sA, sc, rfl, -, -⟩ := hown1.slc enc3_len (n := len) (by rw [List.nil_append]; exact HZL.out); have hs := hown1; have hb2 := below_grown B0.out hg1 O0.out (Nat.le_refl _); obtain ⟨ss, h1, h2, h3⟩ := HNB.out; have HS := Lib.hid (show OwnE 3 enc3 103 w.heap.size w2 (Slv.v ⟨sA, len, sc⟩) xs from hs.base_le HR.out.size); have HB2 := Lib.hid (below_trans HR.out hb2); have HSZ := Lib.hid HB2.out.size; have H1 := Lib.hid (h1.below hb2 (Nat.le_refl _)); have H2 := Lib.hid h2; have H3 := Lib.hid (net_keep h3 hb2); have HNS := Lib.hid (show ∀ i, (Slv.v ⟨sA, len, sc⟩).ownBlock = some i → u8.ownBlock ≠ some i from own_above h1 hs); have HLK := Lib.hid (by rw [h2, HL.out] : ss.length = k); clear hs hown1 hg1 hb2 h1 h2 h3) | (refine wpList_push_at 1 24 50 encW encW_len encW_one (by omega) ⟨sA, len, sc⟩ _ _ rfl rfl _ _ _ rfl Tryz.underlying45 info_tt rfl w.heap.size _ ss rfl rfl rfl H1.out (by rw [HLK.out]; omega) (by rw [HLK.out]; unfold maxLen; omega) HSZ.out ?_; intro v' w' hown' hg' hl'; have NB := Lib.hid (NetB.push H1.out H2.out H3.out HS.out HNS.out hown' hg' hl'); have HB' := Lib.hid (below_grown HB2.out hg' H1.out (Nat.le_refl _)); clear hown' hg' hl'))
      obtain ⟨A2, m2, c2, rfl, hm2, hns2⟩ : ∃ A2 m2 c2, v' = .slice A2 m2 c2 ∧ m2 = k + 1 ∧ NetS w' A2 m2 (net ++ [xs]) := by
        obtain ⟨A2, c2, h1, h2, -⟩ := NB.out.netS
        exact ⟨A2, _, c2, h1, by rw [List.length_append, HL.out]; rfl, h2⟩
      have HV2 := Lib.hid (specNetValid_any A2 n m2 c2 (net ++ [xs]) w' hns2 (by rw [hm2]; omega) (netLen_app HLL.out (by rw [HX.out.len]; exact hlen)) h1 h2)
      clear hns2 hm2
      go_wp2_with fail
      refine HV2.out.mono ?_
      intro e w4 hp
      rcases HB.out with ⟨rfl, h5, rfl⟩ | ⟨rfl, h5, rfl⟩
      · obtain ⟨rfl, hb4⟩ := hp.yes h5
        have HB4 := Lib.hid hb4
        clear hp hb4
        go_wp2_with fail
        go_ret2
        exact ⟨_, rfl, NB.out.below HB4.out, below_trans HB'.out HB4.out⟩
      · obtain ⟨rfl, hb4⟩ := hp.no h5
        have HB4 := Lib.hid hb4
        clear hp hb4
        go_wp2_with fail
        go_ret2
        have hb4 := below_trans HB'.out HB4.out
        exact ⟨_, rfl, NetB.nil hb4.size, below_alloc hb4 _⟩
set_option maxRecDepth 20000 in
set_option maxHeartbeats 3200000 in
theorem l10Coach_any (Ab : Option Addr) (m cb : Nat) (A : Option Addr) (n c : Nat) (net : List (List T3)) (ns : List Int) (b : Bool) (ys : List (List T3)) (W : World) (hnet : NetS W Ab m net) (hm : m ≤ 1000) (hll : NetLen net)
    (hN : SlE 1 encI W A n ns) (hn3 : n % 3 = 0) (hn : n ≤ 1000)
    (hb : (b = true ∧ NetOk 6 (net ++ [tripL ns]) ∧ ys = net ++ [tripL ns]) ∨ (b = false ∧ ¬ NetOk 6 (net ++ [tripL ns]) ∧ ys = [])) :
    Calls Tryz.prog 75 #[.slice Ab m cb, .slice A n c] W (PostAdded b ys W) := by
  have HY := Lib.hid hb
  have HNET := Lib.hid hnet
  have HLL := Lib.hid hll
  have HN := Lib.hid hN
  have HN3 := Lib.hid hn3
  have HTL := Lib.hid (show (tripL ns).length = n / 3 by rw [tripL_len, hN.len])
  clear hN hb hll hn3 hnet
  go_enter Tryz.func75, Tryz.ntmps75
  go_wp2_with fail
  go_loopw [6, 7] (fun v i wr => ∃ j q : Nat, q = 3 * j ∧ q ≤ n ∧ i = .int .i64 q ∧ OwnE 3 enc3 103 W.heap.size wr v ((tripL ns).take j) ∧ Below W.heap.size W wr) (fun _ i _ => n - (intOf i).toNat)
  case atStart => exact ⟨0, 0, rfl, by omega, rfl, own_new W _ _ (Nat.le_refl _) enc3_len [] #[] rfl (by simp) rfl, below_alloc (Below.refl _ _) _⟩
  case round =>
    obtain ⟨j, q, hq, hqn, rfl, hown, hbr⟩ := hrel
    have HQ := Lib.hid hq
    have HR := Lib.hid hbr
    have HO := Lib.hid hown
    have hsz := hbr.size
    by_cases hqm : q + 2 < n
    · obtain ⟨bb, off, x, y, z, rfl, hp, hg⟩ := trip_at HN.out hq hqm
      have GW := Lib.hid hg
      have HP := Lib.hid hp
      have HW0 := Lib.hid (show wr.drew.cell? ⟨bb, off + q, none⟩ = some (.int .i64 x) ∧ wr.drew.cell? ⟨bb, off + (q + 1), none⟩ = some (.int .i64 y) ∧ wr.drew.cell? ⟨bb, off + (q + 2), none⟩ = some (.int .i64 z) from cells3_below (below_drew hbr) hg)
      have SN := Lib.hid (slE_new (enc := enc3) (k := 3) wr.drew 103 enc3_len [⟨x, y, z⟩] #[.int .i64 x, .int .i64 y, .int .i64 z] rfl (by unfold maxLen; simp) (n := 1) rfl (g := wr.heap.size) rfl)
      have OA := Lib.hid ((OwnE.drew hown).alloc (.cells #[.int .i64 x, .int .i64 y, .int .i64 z] 103))
      have BA := Lib.hid (below_alloc (below_drew hbr) (.cells #[.int .i64 x, .int .i64 y, .int .i64 z] 103))
      have HW1 := Lib.hid (cells3_below BA.out GW.out)
      have hlj : ((tripL ns).take j).length = j := by rw [List.length_take, HTL.out]; omega
      have N1 := Lib.hid (show (((tripL ns).take j).length + 1) * 24 ≤ 140737488355328 ∧ ((tripL ns).take j).length + 1 ≤ maxLen by rw [hlj]; unfold maxLen; omega)
      have XA := Lib.hid BA.out.size
      clear hq hown hbr hp hlj hg
      have hq0 : (0 : Int) ≤ (q : Int) ∧ (0 : Int) ≤ (q : Int) + 1 ∧ (0 : Int) ≤ (q : Int) + 2 := ⟨by omega, by omega, by omega⟩
      have hq1 : (q : Int) < (n : Int) ∧ (q : Int) + 1 < (n : Int) ∧ (q : Int) + 2 < (n : Int) := ⟨by omega, by omega, by omega⟩
      obtain ⟨hq2, hq3, hq4⟩ := hq0
      obtain ⟨hq5, hq6, hq7⟩ := hq1
      have hq8 : q < n ∧ q + 1 < n := ⟨by omega, by omega⟩
      obtain ⟨hq8, hq9⟩ := hq8
      have ht2 : ((q : Int) + 2).toNat = q + 2 := by omega
      have hwz1 : IntKind.i64.wrap ((q : Int) + 1) = (q : Int) + 1 := IntWalk.i64_in _ (by omega)
      have hwz2 : IntKind.i64.wrap ((q : Int) + 2) = (q : Int) + 2 := IntWalk.i64_in _ (by omega)
      go_wp2_with fail
      go_region_held3 (fun w' => w'.cell? ⟨bb, off + q, none⟩ = some (.int .i64 x) ∧ w'.cell? ⟨bb, off + (q + 1), none⟩ = some (.int .i64 y) ∧ w'.cell? ⟨bb, off + (q + 2), none⟩ = some (.int .i64 z))
        (first | exact HW0.out | exact HW1.out | exact CZ2.out | fail)
        (first
          | (go_loud (refine step_cat (bytes := 24) (base := W.heap.size) enc3_len enc3_one (Nat.succ_pos 2) rfl (.tmp 16) (.tmp 32) _ rfl Tryz.underlying50 info_stop rfl _ _ rfl OA.out rfl SN.out N1.out.1 N1.out.2 XA.out ?_; intro v2 w2 hown2 hg2; have B2 := Lib.hid (below_grown BA.out hg2 OA.out (Nat.le_refl _)); have O2 := Lib.hid hown2; have CZ2 := Lib.hid (cells3_below B2.out GW.out); clear hown2 hg2))
          | fail)
      all_goals (go_wp2_with fail; exact ⟨⟨j + 1, q + 3, by have := HQ.out; omega, by have := HN3.out; have := HQ.out; omega, by push_cast; rfl, by rw [take_next HP.out]; exact O2.out, B2.out⟩, by simp only [intOf]; omega⟩)
    · obtain rfl : q = n := by have := HN3.out; omega
      obtain ⟨tl, htl⟩ : ∃ tl, (tripL ns).length = tl := ⟨_, rfl⟩
      have hown' : OwnE 3 enc3 103 W.heap.size wr u6 (tripL ns) := by
        rw [List.take_of_length_le (by rw [HTL.out]; have := HQ.out; omega)] at hown
        exact hown
      obtain ⟨Ax, cx, rfl, hslx, -⟩ := hown'.slc enc3_len htl
      have htl2 : tl ≤ 1000 := by rw [← htl, HTL.out]; omega
      have HPA := Lib.hid (specPostAdd_any Ab Ax 6 m cb tl cx net (tripL ns) b ys wr (HNET.out.below hbr) (by omega) HLL.out hslx (by omega) (by omega) (by omega) HY.out)
      clear hq hown hbr hown' htl hslx
      go_wp2_with fail
      refine HPA.out.mono ?_
      rintro e w2 ⟨v, rfl, hnb, hb2⟩
      have HNB := Lib.hid hnb
      have HB2 := Lib.hid (below_trans HR.out hb2)
      clear hnb hb2
      go_wp2_with fail
      go_ret2
      obtain ⟨ss, o1, o2, o3⟩ := HNB.out
      exact ⟨_, rfl, ⟨ss, o1.base_le hsz, o2, fun j s xs hs hx => ⟨(o3 j s xs hs hx).1.base_le hsz, (o3 j s xs hs hx).2⟩⟩, HB2.out⟩
end Go.Proofs.YtgjllminidlolaaGreatDoor
