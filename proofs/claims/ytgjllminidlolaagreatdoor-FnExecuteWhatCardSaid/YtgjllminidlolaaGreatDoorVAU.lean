/- Texts of mine in one: KWalkH QWalkD KWalkJ. -/
import Derived.Test.YtgjllminidlolaaGreatDoorVAT
/- Contracts: PostWay of the program; the command of a script that tells the rides of a letter. -/
set_option linter.unusedVariables false
namespace Go.Proofs.YtgjllminidlolaaGreatDoor
open Go.RowKit

theorem back_inv {net : List (List T3)} {f : Int → Int} {s0 ch town : Int} {l : List T3} (h : BackP net f s0 ch town l) :
    (l = [] ∧ town = s0) ∨ ∃ (c i k : Nat) (xs : List T3) (p : T3) (l' : List T3), l = ⟨c, i, k⟩ :: l' ∧ town ≠ s0 ∧ LastP net f s0 ch town c i k ∧ net[c]? = some xs ∧ xs[i]? = some p ∧ BackP net f s0 ch p.a l' := by
  cases h with
  | here => exact .inl ⟨rfl, rfl⟩
  | ride h1 h2 h3 h4 h5 => exact .inr ⟨_, _, _, _, _, _, rfl, h1, h2, h3, h4, h5⟩
theorem info_ride : (Tryz.prog.info? 211).map (fun i => (i.zero, i.size, i.bytes)) = some (some (.agg #[.int .i64 0, .int .i64 0, .int .i64 0]), 3, 24) := by kernel_rfl
/-- slices.Reverse of a list of rides that a call made. -/
def ReversedV (base : Nat) (v : Value) (xs : List T3) (w : World) (e : Ending) (w' : World) : Prop :=
  e = .returned (.tuple #[]) ∧ OwnE 3 enc3 211 base w' v xs.reverse ∧ w.grownBy w' v.ownBlock
set_option maxRecDepth 20000 in
set_option maxHeartbeats 800000 in
theorem reverse_own (base : Nat) (v : Value) (xs : List T3) (w : World) (h : OwnE 3 enc3 211 base w v xs) (hn : xs.length ≤ 1000) :
    Calls Tryz.prog 211 #[v] w (ReversedV base v xs w) := by
  rcases h.2 with ⟨rfl, h0⟩ | ⟨g, cap, cur, rfl, -⟩
  · obtain rfl : xs = [] := List.eq_nil_of_length_eq_zero h0
    have H := Lib.hid h
    clear h
    go_enter Tryz.func211, Tryz.ntmps211
    go_wp2_with fail
    go_loopw [2, 3] (fun i j wr => i = .int .i64 0 ∧ j = .int .i64 (-1) ∧ wr = w) (fun i _ _ => 0)
    case atStart => exact ⟨rfl, rfl, rfl⟩
    case round =>
      obtain ⟨rfl, rfl, rfl⟩ := hrel
      go_wp2_with fail
      go_end0
      exact ⟨rfl, H.out, World.grownBy.refl _ _⟩
  · exact reverse_any base g xs.length cap xs w h rfl hn

/-- The rides of a letter have been returned. -/
def WayRet (n : Int) (net : List (List T3)) (s0 tw t0 ch : Int) (w : World) (e : Ending) (w' : World) : Prop := RetOwnB 3 enc3 211 (rideV n net s0 tw t0 ch) (decide (0 ≤ postV n net s0 tw t0 ch)) w e w'
set_option maxRecDepth 20000 in
set_option maxHeartbeats 6400000 in
theorem implPostWay_any (A : Option Addr) (n : Int) (m cap : Nat) (net : List (List T3)) (s0 tw t0 ch : Int) (w : World) (h : NetS w A m net) (hm : m ≤ 16777216) (hl : NetLen net) :
    Calls Tryz.prog 183 #[.int .i64 n, .slice A m cap, .int .i64 s0, .int .i64 tw, .int .i64 t0, .int .i64 ch] w (WayRet n net s0 tw t0 ch w) := by
  have HPA := Lib.hid (implPostArrive_any A n m cap net s0 tw t0 ch w h hm hl)
  have HNP := Lib.hid (fun W hW => newPostTable_any A n m cap net s0 t0 ch W (h.below hW) hm hl)
  have H := Lib.hid h
  clear h hm hl
  by_cases hv : 0 ≤ postV n net s0 tw t0 ch
  rotate_left
  · have hd : decide (0 ≤ postV n net s0 tw t0 ch) = false := by simp [hv]
    have hr : rideV n net s0 tw t0 ch = [] := by unfold rideV; rw [backV_no (by omega)]; rfl
    have HE := Lib.hid (show ∀ e w', RetOwnB 3 enc3 211 [] false w e w' → WayRet n net s0 tw t0 ch w e w' from fun e w' h => by unfold WayRet; rw [hr, hd]; exact h)
    have hv2 : postV n net s0 tw t0 ch < 0 := by omega
    clear hv hd hr HNP
    generalize postV n net s0 tw t0 ch = u at *
    go_enter Tryz.func183, Tryz.ntmps183
    go_wp2_with fail
    refine HPA.out.mono ?_
    rintro e w1 ⟨rfl, hb1⟩
    have HB1 := Lib.hid hb1
    clear hb1
    go_wp2_with fail
    go_ret2
    exact HE.out _ _ ⟨_, rfl, own_new w1 _ _ HB1.out.size enc3_len [] #[] rfl (by simp) rfl, below_alloc HB1.out _⟩
  have hd : decide (0 ≤ postV n net s0 tw t0 ch) = true := by simp [hv]
  obtain ⟨hq, ht, -⟩ := postV_pos hv
  have HBV := Lib.hid (backV_yes hv)
  have hbl : (backV n net s0 tw t0 ch).length ≤ 8 := by
    have h8 := hq.1.2.1
    obtain ⟨k, rfl⟩ : ∃ k : Nat, n = k := ⟨n.toNat, by have := hq.1.1; omega⟩
    have h1 := (@rideV_facts k net s0 t0 ch tw).1
    unfold rideV at h1
    rw [List.length_reverse] at h1
    exact h1
  have HE := Lib.hid (show ∀ e w', RetOwnB 3 enc3 211 (backV n net s0 tw t0 ch).reverse true w e w' → WayRet n net s0 tw t0 ch w e w' from fun e w' h => by unfold WayRet; rw [hd]; exact h)
  have HQ := Lib.hid hq
  have hvz : ¬ postV n net s0 tw t0 ch < 0 := by omega
  have hft0 : 0 ≤ tblV net s0 t0 ch tw := by rw [← postV_yes hq ht]; exact hv
  have hn1 := hq.1.1
  have hs0 := hq.2.1
  clear hd hq
  obtain ⟨n, rfl⟩ : ∃ k : Nat, n = k := ⟨n.toNat, by omega⟩
  obtain ⟨s0, rfl⟩ : ∃ k : Nat, s0 = k := ⟨s0.toNat, by omega⟩
  obtain ⟨tw, rfl⟩ : ∃ k : Nat, tw = k := ⟨tw.toNat, by omega⟩
  generalize backV (n : Int) net (s0 : Int) (tw : Int) t0 ch = L at *
  generalize postV (n : Int) net (s0 : Int) (tw : Int) t0 ch = u at *
  have HTN := Lib.hid (show tw < n by omega)
  have HF0 := Lib.hid hft0
  clear hv ht hft0
  go_enter Tryz.func183, Tryz.ntmps183
  go_wp2_with fail
  refine HPA.out.mono ?_
  rintro e w0 ⟨rfl, hb0⟩
  have HB0 := Lib.hid hb0
  clear hb0 HPA
  go_wp2_with fail
  refine (HNP.out _ HB0.out).mono ?_
  rintro e w1 ⟨hb1, ⟨hq, P, T, rfl, hpt, hP, hT⟩ | ⟨hq, -⟩⟩
  rotate_left
  · exact absurd HQ.out hq
  rw [Int.toNat_natCast] at hpt
  have E : PEnv w0 P T A m cap net s0 t0 ch n n := ⟨hq.ok, H.out.below HB0.out, hT, Nat.le_refl _⟩
  have HSG := Lib.hid (spread_go E (muP n (tstart s0 t0)) w1 (tstart s0 t0) s0 hb1 hpt (snd_start_p hq.ok) (Nat.le_refl _) (by omega))
  have HB1 := Lib.hid (below_trans HB0.out hb1)
  have HT := Lib.hid (Nat.le_trans HB0.out.size hT)
  clear hb1 hq hpt hP hT HNP E
  go_wp2_with fail
  refine HSG.out.mono ?_
  rintro e w2 ⟨rfl, f', hpt, hg2, hsp⟩
  have HTF := Lib.hid (spr_table HQ.out.ok hsp)
  have HB2 := Lib.hid (below_T HB1.out hg2 HT.out)
  have HPT := Lib.hid hpt
  have hFE : ∀ v, f' v = tblV net (s0 : Int) t0 ch v := fun v => tblV_eq HQ.out.ok HTF.out v
  have hfe : f' = tblV net (s0 : Int) t0 ch := funext hFE
  have HBV2 := Lib.hid (show BackP net f' (s0 : Int) ch (tw : Int) L by rw [hfe]; exact HBV.out)
  have HF1 := Lib.hid (show 0 ≤ f' (tw : Int) by rw [hfe]; exact HF0.out)
  have HN2 := Lib.hid (H.out.below HB2.out)
  have HW2 := Lib.hid (show w.heap.size ≤ w2.heap.size from HB2.out.size)
  clear hpt hg2 hsp HSG hFE hfe HBV HF0 HB1 HB0
  go_wp2_with fail
  obtain ⟨W2, rfl⟩ : ∃ W, W = w2 := ⟨_, rfl⟩
  go_loopg [15, 16] L.length (fun k v t wr => ∃ (l1 l2 : List T3) (tt : Nat), l2.length = k ∧ L = l1 ++ l2 ∧ t = .int .i64 tt ∧ tt < n ∧ 0 ≤ f' (tt : Int) ∧ BackP net f' (s0 : Int) ch (tt : Int) l2 ∧ OwnE 3 enc3 211 W2.heap.size wr v l1 ∧ Below W2.heap.size W2 wr)
  case atStart => exact ⟨[], L, tw, rfl, rfl, rfl, HTN.out, HF1.out, HBV2.out, own_new W2 _ _ (Nat.le_refl _) enc3_len [] #[] rfl (by simp) rfl, below_alloc (Below.refl _ _) _⟩
  case round =>
    obtain ⟨l1, l2, tt, hk, hL, rfl, htt, hf0, hbp, hown, hbr⟩ := hrel
    have HK := Lib.hid hk
    have HL := Lib.hid hL
    have HF0 := Lib.hid hf0
    have HR := Lib.hid hbr
    have HO := Lib.hid hown
    have HRW := Lib.hid (HB2.out.trans (hbr.mono HW2.out))
    have hl1 : l1.length ≤ 8 := by rw [hL, List.length_append] at hbl; omega
    have HL1 := Lib.hid hl1
    clear hk hL hf0 hbr hown hl1
    rcases back_inv hbp with ⟨hnil, hts⟩ | ⟨c, i, k2, xs, p, l', hl2, hne, hlp, hx, hp, hbp2⟩
    · have HNIL := Lib.hid hnil
      have dn : ((tt : Int) != (s0 : Int)) = false := by simp [hts]
      have HRV := Lib.hid (reverse_own W2.heap.size _ l1 wr HO.out (by have := HL1.out; omega))
      have HEQ := Lib.hid (show l1 = L by rw [HL.out, HNIL.out, List.append_nil])
      clear hbp hnil hts
      go_wp2_with fail
      refine HRV.out.mono ?_
      rintro e w3 ⟨rfl, hown3, hg3⟩
      have HO3 := Lib.hid hown3
      have HB3 := Lib.hid (HRW.out.grown hg3 HRW.out.size (fun j hj => Nat.le_trans HW2.out (HO.out.lt j hj).1))
      clear hown3 hg3 HRV
      go_wp2_with fail
      go_ret2
      exact HE.out _ _ ⟨_, rfl, by rw [← HEQ.out]; exact HO3.out.base_le HW2.out, HB3.out⟩
    · have dn : ((tt : Int) != (s0 : Int)) = true := by simpa using hne
      have HLR := Lib.hid (lastRide_any (cN := cap) wr (HPT.out.below HR.out) (HN2.out.below HR.out) HQ.out.ok HTF.out (Nat.le_refl n) tt htt c i k2 hlp)
      have hlf := last_facts HQ.out.1 HQ.out.2.2.2.1 hlp hx hp
      have HLF := Lib.hid hlf
      have HX := Lib.hid hx
      have HP := Lib.hid hp
      have HBP := Lib.hid hbp2
      have HL2 := Lib.hid hl2
      have hcm : c < m := by have := hlf.1; rw [H.out.len] at this; exact this
      clear hbp hl2 hne hlp hx hp hbp2 hlf
      go_wp2_with fail
      refine HLR.out.mono ?_
      rintro e w3 ⟨rfl, hb3⟩
      have HO3 := Lib.hid (HO.out.below hb3 (Nat.le_refl _))
      have HR3 := Lib.hid (HR.out.trans (hb3.mono HR.out.size))
      have HRW3 := Lib.hid (HRW.out.trans (hb3.mono HRW.out.size))
      have hsz3 := HR3.out.size
      have hb30 := hb3
      clear hb3 HLR HO HR HRW
      have HO4 := Lib.hid (HO3.out.below (below_alloc (Below.refl w3.heap.size w3) (.cells #[.int .i64 (c : Int), .int .i64 (i : Int), .int .i64 (k2 : Int)] 211)) (Nat.le_refl _))
      have HR4 := Lib.hid (HR3.out.trans ((below_alloc (Below.refl w3.heap.size w3) (.cells #[.int .i64 (c : Int), .int .i64 (i : Int), .int .i64 (k2 : Int)] 211)).mono hsz3))
      have hsz4 : (w3.alloc (.cells #[.int .i64 (c : Int), .int .i64 (i : Int), .int .i64 (k2 : Int)] 211)).heap.size = w3.heap.size + 1 := by simp
      have HC4 := Lib.hid (show (w3.alloc (.cells #[.int .i64 (c : Int), .int .i64 (i : Int), .int .i64 (k2 : Int)] 211)).cell? ⟨w3.heap.size, 0, none⟩ = some (.int .i64 (c : Int)) ∧ (w3.alloc (.cells #[.int .i64 (c : Int), .int .i64 (i : Int), .int .i64 (k2 : Int)] 211)).cell? ⟨w3.heap.size, 1, none⟩ = some (.int .i64 (i : Int)) ∧ (w3.alloc (.cells #[.int .i64 (c : Int), .int .i64 (i : Int), .int .i64 (k2 : Int)] 211)).cell? ⟨w3.heap.size, 2, none⟩ = some (.int .i64 (k2 : Int)) from ⟨by simp, by simp, by simp⟩)
      have HSZ4 := Lib.hid (show W2.heap.size ≤ (w3.alloc (.cells #[.int .i64 (c : Int), .int .i64 (i : Int), .int .i64 (k2 : Int)] 211)).heap.size by rw [hsz4]; omega)
      have HZ4 := Lib.hid hsz4
      clear hsz4
      go_wp2_with (at_builtin; refine wpList_push 3 24 211 enc3 enc3_len enc3_one (by omega) ⟨(c : Int), (i : Int), (k2 : Int)⟩ _ _ rfl rfl _ _ _ rfl Tryz.underlying207 info_ride rfl W2.heap.size _ l1 rfl rfl (by simp) HO4.out (by have := HL1.out; omega) (by have := HL1.out; unfold maxLen; omega) HSZ4.out ?_; intro v' w' hown' hg'; have HO' := Lib.hid hown'; have HG' := Lib.hid hg'; have HR5 := Lib.hid (below_grown HR4.out hg' HO4.out (Nat.le_refl _)); clear hown' hg')
      have hne3 : u15.ownBlock ≠ some w3.heap.size := fun e => by have := (HO3.out.lt _ e).2; omega
      obtain ⟨d0, d1, d2⟩ := HC4.out
      have q0 : w'.cell? ⟨w3.heap.size, 0, none⟩ = some (.int .i64 (c : Int)) := by rw [grown_cell HG'.out (by rw [HZ4.out]; omega) hne3]; exact d0
      have q1 : w'.cell? ⟨w3.heap.size, 1, none⟩ = some (.int .i64 (i : Int)) := by rw [grown_cell HG'.out (by rw [HZ4.out]; omega) hne3]; exact d1
      obtain ⟨bb, off, A', n', c', zs, rfl, hbl, hcell, hz, hsl, hnc⟩ := HN2.out.at_ HR5.out hcm
      obtain rfl : zs = xs := by rw [HX.out] at hz; exact (Option.some.inj hz).symm
      have hin : i < n' := by
        have := (List.getElem?_eq_some_iff.1 HP.out).1
        rw [hsl.len] at this
        exact this
      obtain ⟨b2, off2, px, py, pz, rfl, hbl2, hpx, -, r0, r1, r2⟩ := at3 hsl HR5.out hin
      obtain rfl : p = ⟨px, py, pz⟩ := by rw [HP.out] at hpx; exact Option.some.inj hpx
      obtain ⟨-, -, -, f0, f1, f2, -⟩ := HLF.out
      dsimp only at f0 f1 f2
      obtain ⟨px, rfl⟩ : ∃ k : Nat, px = k := ⟨px.toNat, by omega⟩
      have z0 : (0 : Int) ≤ (c : Int) ∧ (c : Int) < (m : Int) := by omega
      have z1 : (0 : Int) ≤ (i : Int) ∧ (i : Int) < (n' : Int) := by omega
      obtain ⟨z0, z2⟩ := z0
      obtain ⟨z1, z3⟩ := z1
      have HF2 := Lib.hid (show px < n ∧ 0 ≤ f' (px : Int) from ⟨by omega, f2⟩)
      clear hz hpx d0 d1 d2 f0 f1 f2 hb30
      go_wp2_with fail
      go_region
      go_wp2_with fail
      go_roundg l'.length
      case measure => have := HK.out; rw [HL2.out, List.length_cons] at this; omega
      case rel => exact ⟨l1 ++ [⟨(c : Int), (i : Int), (k2 : Int)⟩], l', px, rfl, by rw [HL.out, HL2.out, List.append_assoc]; rfl, rfl, HF2.out.1, HF2.out.2, HBP.out, OwnE.drew HO'.out, below_drew HR5.out⟩
end Go.Proofs.YtgjllminidlolaaGreatDoor
/- Contracts: the last ride, and the rides of a letter, in the reference. -/
set_option linter.unusedVariables false
namespace Go.Proofs.YtgjllminidlolaaGreatDoor
open Go.RowKit

theorem results_cell_one {fn : Func} {p : Tmp} {ty : TypeId} (h : fn.results = #[.cell p ty]) (tmps : Array Value) (P : Program) (w : World) :
    (results fn tmps).run P w = ((asAddr (tmps.getD p undef)).run P w).andThen fun a w₁ => (loadVar ty a).run P w₁ := by
  simp only [results, h]
  simp [Sem.run_bind, Result.andThen]
/-- Where a coach stops in a town, or -1. -/
def L2Ret (xs : List T3) (town : Int) (w : World) (e : Ending) (w' : World) : Prop :=
  w = w' ∧ ((e = .returned (.int .i64 (-1)) ∧ ∀ (j : Nat) r, xs[j]? = some r → r.a ≠ town) ∨ ∃ k : Nat, e = .returned (.int .i64 k) ∧ AtP xs town k)
set_option maxRecDepth 20000 in
set_option maxHeartbeats 1600000 in
theorem l2At_any (A : Option Addr) (n c : Nat) (xs : List T3) (town : Int) (w : World) (h : SlE 3 enc3 w A n xs) (hn : n ≤ 1000000) :
    Calls Tryz.prog 218 #[.slice A n c, .int .i64 town] w (L2Ret xs town w) := by
  have H := Lib.hid h
  have HL := Lib.hid h.len
  clear h
  go_enter Tryz.func218, Tryz.ntmps218
  go_wp2_with fail
  go_loop [5] (fun i => ∃ j : Nat, j ≤ n ∧ i = .int .i64 j ∧ ∀ (q : Nat) r, q < j → xs[q]? = some r → r.a ≠ town) (fun i => n - (intOf i).toNat)
  case atStart => exact ⟨0, by omega, rfl, fun q r hq => by omega⟩
  case round =>
    obtain ⟨j, hj, rfl, hno⟩ := hrel
    have HNO := Lib.hid hno
    clear hno
    by_cases hjn : j < n
    · obtain ⟨b, off, x, y, z, rfl, hbl, hx, hd, g0, g1, g2⟩ := at3 H.out (Below.refl _ _) hjn
      have HX := Lib.hid hx
      clear hx hd
      by_cases hxt : x = town
      · have HXT := Lib.hid hxt
        have dn : (x == town) = true := by simp [hxt]
        clear hxt
        go_wp2_with fail
        go_ret
        exact ⟨rfl, .inr ⟨j, rfl, ⟨_, HX.out, HXT.out⟩, fun q r hq hr => HNO.out q r hq hr⟩⟩
      · have HXT := Lib.hid hxt
        have dn : (x == town) = false := by simpa using hxt
        clear hxt
        go_wp2_with fail
        go_round
        case rel => exact ⟨j + 1, by omega, by go_num, fun q r hq hr => by
          rcases (by omega : q < j ∨ q = j) with h | h
          · exact HNO.out q r h hr
          · subst h
            rw [HX.out] at hr
            injection hr with hr
            subst hr
            exact HXT.out⟩
        case measure => simp [intOf]; omega
    · obtain rfl : j = n := by omega
      go_wp2_with fail
      go_ret
      exact ⟨rfl, .inl ⟨rfl, fun q r hr => HNO.out q r (by have := (List.getElem?_eq_some_iff.1 hr).1; rw [HL.out] at this; exact this) hr⟩⟩
set_option maxRecDepth 20000 in
set_option maxHeartbeats 6400000 in
theorem l7Last_any {T : Nat} {A : Option Addr} {m cN : Nat} {net : List (List T3)} {s0 t0 ch : Int} {n ct : Nat} {f : Int → Int} (W : World) (tb : TbAt T n f W) (hN : NetS W A m net) (hok : PostOk n net s0 t0 ch) (hf : TableOf net s0 t0 ch f)
    (town : Nat) (ht : town < n) (lc li lk : Nat) (hl : LastP net f s0 ch town lc li lk) :
    Calls Tryz.prog 190 #[.slice A m cN, .slice (some ⟨T, 0, none⟩) n ct, .int .i64 s0, .int .i64 town, .int .i64 ch] W (Only (.agg #[.int .i64 lc, .int .i64 li, .int .i64 lk]) W) := by
  have HOK := Lib.hid hok
  have HF := Lib.hid hf
  have HLP := Lib.hid hl
  have HN := Lib.hid hN
  have hm6 : m ≤ 6 := by have := hok.net.2.2.1; rw [hN.len] at this; exact this
  have hlc : lc < m := by
    obtain ⟨xs, p, q, h1, -⟩ := hl.ex
    have := (List.getElem?_eq_some_iff.1 h1).1
    rw [hN.len] at this
    exact this
  obtain ⟨W1, hW1⟩ : ∃ W1, W.alloc (.cells #[.int .i64 0, .int .i64 0, .int .i64 0] 211) = W1 := ⟨_, rfl⟩
  have BX := Lib.hid (show Below W.heap.size W W1 by rw [← hW1]; exact below_alloc (Below.refl W.heap.size W) (.cells #[.int .i64 0, .int .i64 0, .int .i64 0] 211))
  have HC1 := Lib.hid (show W1.cell? ⟨W.heap.size, 0, none⟩ = some (.int .i64 0) ∧ W1.cell? ⟨W.heap.size, 1, none⟩ = some (.int .i64 0) ∧ W1.cell? ⟨W.heap.size, 2, none⟩ = some (.int .i64 0) by rw [← hW1]; exact ⟨by simp, by simp, by simp⟩)
  have HZ1 := Lib.hid (show ∀ i, W1.frozen? ⟨W.heap.size, i, none⟩ = false from fun i => by rw [← hW1]; exact OwnE.frozen (own_new (enc := enc3) (k := 3) W 211 0 (Nat.zero_le _) enc3_len [⟨0, 0, 0⟩] #[.int .i64 0, .int .i64 0, .int .i64 0] rfl (by unfold maxLen; simp) rfl) i)
  have HL1 := Lib.hid (show W.heap.size < W1.heap.size by rw [← hW1]; simp)
  have TX := Lib.hid (tb.below BX.out)
  have hfb := table_bd hok hf
  have HFB := Lib.hid hfb
  clear tb hN hok hf hl hfb
  go_enter Tryz.func190, Tryz.ntmps190
  go_wp2_with fail
  clear hW1
  go_loopw [11] (fun i wr => ∃ j : Nat, j ≤ lc ∧ i = .int .i64 j ∧ Below W1.heap.size W1 wr) (fun i _ => m - (intOf i).toNat)
  case atStart => exact ⟨0, by omega, rfl, Below.refl _ _⟩
  case round =>
    obtain ⟨j, hj, rfl, hbr⟩ := hrel
    have HR := Lib.hid hbr
    have HRW := Lib.hid (below_trans BX.out hbr)
    clear hbr
    have hjm : j < m := by omega
    obtain ⟨bb, off, A', n', c', xs, rfl, hbl, hcell, hx, hsl, hnc⟩ := HN.out.at_ HRW.out hjm
    have HX := Lib.hid hx
    have HSL := Lib.hid (hsl.below HRW.out)
    have hxm := List.mem_of_getElem? hx
    have HSO := Lib.hid (HOK.out.net.2.2.2 xs hxm)
    have hn8 : n' ≤ 8 := by have := HSO.out.2.2.2.1; rw [hsl.len] at this; exact this
    have TR := Lib.hid (TX.out.below HR.out)
    have HCL := Lib.hid (fun W' (hW : Below wr.heap.size wr W') => (cell_below' hW hcell : W'.cell? ⟨bb, off + j, none⟩ = some (.slice A' n' c')))
    clear hx hsl hxm
    go_wp2_with fail
    refine (l2At_any A' n' c' xs (town : Int) wr HSL.out (by omega)).mono ?_
    rintro e w2 ⟨rfl, ⟨rfl, hno⟩ | ⟨k, rfl, hat⟩⟩
    · have hjl : j < lc := by
        rcases Nat.lt_or_ge j lc with h | h
        · exact h
        · exfalso
          obtain rfl : j = lc := by omega
          obtain ⟨ys, p, q, h1, h2, h3, -⟩ := HLP.out.ex
          rw [HX.out] at h1
          injection h1 with h1
          subst h1
          obtain ⟨⟨r, hr, hra⟩, -⟩ := h2
          exact hno _ r hr hra
      clear hno
      go_wp2_with fail
      go_quiet (fail)
      go_wp2_with fail
      exact ⟨⟨j + 1, by omega, by push_cast; rfl, bl_drewN HR.out _⟩, by simp only [intOf]; omega⟩
    have HAT := Lib.hid hat
    have hkn : k < n' := by
      obtain ⟨⟨r, hr, -⟩, -⟩ := hat
      have := (List.getElem?_eq_some_iff.1 hr).1
      rw [HSL.out.len] at this
      exact this
    have hkz : ¬ (k : Int) < 0 := by omega
    have hkz2 : (0 : Int) ≤ (k : Int) := by omega
    have hkn2 : (k : Int) < (n' : Int) := by omega
    obtain ⟨b', off', x0, y0, z0, rfl, hbl', hp, -, q0, q1, q2⟩ := at3 HSL.out (Below.refl _ _) hkn
    obtain rfl : x0 = (town : Int) := by
      obtain ⟨⟨r, hr, hra⟩, -⟩ := hat
      rw [hp] at hr
      injection hr with hr
      subst hr
      exact hra
    have HP := Lib.hid hp
    have hft := TR.out.at_ town ht
    obtain ⟨fv, hfv⟩ : ∃ fv, f (town : Int) = fv := ⟨_, rfl⟩
    rw [hfv] at hft
    have HFV := Lib.hid hfv
    have htz : (town : Int) < (n : Int) := by omega
    have htz0 : (0 : Int) ≤ (town : Int) := by omega
    have hjz : (0 : Int) ≤ (j : Int) := by omega
    have hjz2 : (j : Int) < (m : Int) := by omega
    clear hp hfv hat
    by_cases hyb : y0 = fv
    rotate_left
    · have hjl : j < lc := by
        rcases Nat.lt_or_ge j lc with h | h
        · exact h
        · exfalso
          obtain rfl : j = lc := by omega
          obtain ⟨ys, p, q, h1, h2, h3, h4, -⟩ := HLP.out.ex
          rw [HX.out] at h1
          injection h1 with h1
          subst h1
          obtain rfl := at_unique h2 HAT.out
          rw [HP.out] at h3
          injection h3 with h3
          subst h3
          exact hyb (by rw [← HFV.out]; exact h4)
      have dn : (y0 != fv) = true := by simpa using hyb
      have hyb2 : ¬ y0 = fv := hyb
      clear hyb
      go_wp2_with fail
      go_quiet (fail)
      go_wp2_with fail
      exact ⟨⟨j + 1, by omega, by push_cast; rfl, bl_drewN HR.out _⟩, by simp only [intOf]; omega⟩
    have HFQ := Lib.hid (show y0 = f (town : Int) by rw [HFV.out]; exact hyb)
    have dn : (y0 != fv) = false := by simpa using hyb
    clear hyb
    obtain ⟨W3, rfl⟩ : ∃ W3, W3 = wr := ⟨_, rfl⟩
    go_wp2_with fail
    go_quiet (fail)
    go_wp2_with fail
    clear q0 q1 q2 hft hcell dn
    go_loopw [13] (fun i wr => ∃ q : Nat, q ≤ k ∧ i = .int .i64 q ∧ (∀ (i : Nat) p, i < q → xs[i]? = some p → ¬ Rdy f s0 ch p) ∧ Below W3.heap.size W3 wr) (fun i _ => k - (intOf i).toNat)
    case atStart => exact ⟨0, by omega, rfl, fun i p hi => by omega, bl_drewN (Below.refl _ W3) _⟩
    case round =>
      obtain ⟨q, hq, rfl, hno, hbr⟩ := hrel
      have HNO := Lib.hid hno
      have HR4 := Lib.hid hbr
      have HRA := Lib.hid (HR.out.trans (hbr.mono HR.out.size))
      have hcell := HCL.out _ hbr
      clear hno hbr
      by_cases hqk : q < k
      rotate_left
      · obtain rfl : q = k := by omega
        have hjl : j < lc := by
          rcases Nat.lt_or_ge j lc with h | h
          · exact h
          · exfalso
            obtain rfl : j = lc := by omega
            obtain ⟨ys, p, q, h1, h2, h3, h4, h5, h6, h7, -⟩ := HLP.out.ex
            rw [HX.out] at h1
            injection h1 with h1
            subst h1
            obtain rfl := at_unique h2 HAT.out
            exact HNO.out li p h5 h6 h7
        go_wp2_with fail
        exact ⟨⟨j + 1, by omega, by push_cast; rfl, HRA.out⟩, by simp only [intOf]; omega⟩
      have hqn : q < n' := by omega
      obtain ⟨b2, off2, x, y, z, hA2, hbl2, hp, -, g0, g1, g2⟩ := at3 HSL.out HR4.out hqn
      injection hA2 with hA2
      injection hA2 with e1 e2
      subst e1 e2
      have hpb := HSO.out.2.2.2.2.1 _ (mem_at hp)
      dsimp only at hpb
      obtain ⟨x, rfl⟩ : ∃ i : Nat, x = i := ⟨x.toNat, by omega⟩
      have HPQ := Lib.hid hp
      have TQ := Lib.hid (TR.out.below HR4.out)
      have HRY := Lib.hid (fun W h => l7Ready_any (T := T) (n := n) (c := ct) (s0 := s0) (ch := ch) (f := f) x y z W h (by omega) (HFB.out _) HOK.out.ch)
      have i1 : (0 : Int) ≤ (q : Int) := by omega
      have i2 : (q : Int) < (n' : Int) := by omega
      clear hp hpb
      by_cases hrd : Rdy f s0 ch ⟨(x : Int), y, z⟩
      · have HRD := Lib.hid hrd
        have HALL := Lib.hid (show j = lc ∧ q = li ∧ k = lk from last_unique (net := net) (f := f) (s0 := s0) (ch := ch) (town := (town : Int)) ⟨⟨xs, _, _, HX.out, HAT.out, HP.out, HFQ.out, hqk, HPQ.out, hrd, fun i r hi hr => HNO.out i r hi hr⟩, fun i ys hi hy => HLP.out.no i ys (by omega) hy⟩ HLP.out)
        clear hrd
        go_wp2_with fail
        refine (HRY.out _ TQ.out).mono ?_
        intro e w5 hp
        obtain ⟨rfl, hb5⟩ := hp.yes HRD.out
        have HB5 := Lib.hid (HRA.out.trans (hb5.mono HRA.out.size))
        clear hp hb5
        obtain ⟨c1, c2, c3⟩ := cells3_below HB5.out HC1.out
        have HZ5 := fun q => (show w5.frozen? ⟨W.heap.size, q, none⟩ = false by rw [World.frozen?_of_block (w := W1) (HB5.out.block _ HL1.out)]; exact HZ1.out q)
        have HBF := Lib.hid (show Below W.heap.size W (((w5.setCell ⟨W.heap.size, 0, none⟩ (.int .i64 (j : Int))).setCell ⟨W.heap.size, 1, none⟩ (.int .i64 (q : Int))).setCell ⟨W.heap.size, 2, none⟩ (.int .i64 (k : Int))) from
          (((below_trans BX.out HB5.out).setCell (p := ⟨W.heap.size, 0, none⟩) (Nat.le_refl _) _).setCell (p := ⟨W.heap.size, 1, none⟩) (Nat.le_refl _) _).setCell (p := ⟨W.heap.size, 2, none⟩) (Nat.le_refl _) _)
        go_wp2_with fail
        refine bodyPost_ret (v := .agg #[.int .i64 (j : Int), .int .i64 (q : Int), .int .i64 (k : Int)]) (by rw [results_cell_one rfl]; go_simp) rfl ?_
        obtain ⟨rfl, rfl, rfl⟩ := HALL.out
        exact ⟨rfl, HBF.out⟩
      · have HRD := Lib.hid hrd
        clear hrd
        go_wp2_with fail
        refine (HRY.out _ TQ.out).mono ?_
        intro e w5 hp
        obtain ⟨rfl, hb5⟩ := hp.no HRD.out
        have HB5 := Lib.hid (HR4.out.trans (hb5.mono HR4.out.size))
        clear hp hb5
        go_wp2_with fail
        go_roundw
        case rel => exact ⟨q + 1, by omega, by go_num, fun i p hi hp => by
          rcases (by omega : i < q ∨ i = q) with h | h
          · exact HNO.out i p h hp
          · subst h
            rw [HPQ.out] at hp
            injection hp with hp
            subst hp
            exact HRD.out, HB5.out⟩
        case measure => simp [intOf]; omega
end Go.Proofs.YtgjllminidlolaaGreatDoor
/- Contracts: the command of a script that tells the rides of a letter. -/
set_option linter.unusedVariables false
namespace Go.Proofs.YtgjllminidlolaaGreatDoor
open Go.RowKit

def rideS (p : T3) : ByteArray := bs (rideL p)
theorem rideS_join (xs : List T3) : Lib.join ((xs.map rideS).map (·.data.toList)) [32] = ridesL xs := by
  unfold ridesL
  rw [List.map_map]
  congr 1
theorem rideL_nat {x y z : Nat} : rideL ⟨(x : Int), (y : Int), (z : Int)⟩ = Lib.decDigits x ++ [58] ++ Lib.decDigits y ++ [45] ++ Lib.decDigits z := by
  simp [rideL, decI]
/-- Three small numbers of a ride. -/
def RideBd (r : T3) : Prop := 0 ≤ r.a ∧ r.a < 6 ∧ 0 ≤ r.b ∧ r.b < r.c ∧ r.c < 8
theorem ridesBd_len {rs : List T3} (hl : rs.length ≤ 8) (h : ∀ r ∈ rs, RideBd r) : (ridesL rs).length ≤ 200 := by
  have h1 := join_le [32] 5 (rs.map rideL) (fun l hl => by
    obtain ⟨r, hr, rfl⟩ := List.mem_map.1 hl
    exact rideL_len (h r hr))
  rw [List.length_map] at h1
  unfold ridesL
  simp only [List.length_singleton] at h1
  omega
theorem cells3_grown {W W' : World} {row : Option Nat} {g : Nat} {a b c : Value} (hg : W.grownBy W' row) (h : W.cell? ⟨g, 0, none⟩ = some a ∧ W.cell? ⟨g, 1, none⟩ = some b ∧ W.cell? ⟨g, 2, none⟩ = some c) (hr : row ≠ some g) : W'.cell? ⟨g, 0, none⟩ = some a ∧ W'.cell? ⟨g, 1, none⟩ = some b ∧ W'.cell? ⟨g, 2, none⟩ = some c :=
  ⟨by rw [grown_cell hg (World.block_lt_of_cell? W _ h.1) hr]; exact h.1, by rw [grown_cell hg (World.block_lt_of_cell? W _ h.2.1) hr]; exact h.2.1, by rw [grown_cell hg (World.block_lt_of_cell? W _ h.2.2) hr]; exact h.2.2⟩
theorem own_low {α : Type} {k ty base : Nat} {enc : α → List Value} {w : World} {v : Value} {xs : List α} (h : OwnE k enc ty base w v xs) : v.ownBlock ≠ some w.heap.size := fun e => by
  have := (h.lt _ e).2
  omega
set_option maxRecDepth 20000 in
set_option maxHeartbeats 6400000 in
theorem ride_any (w0 : World) (hE : Env w0) (R : Nat) (s : LSt) (av : Nat → Prop) (A : Option Addr) (c : Nat) (x y z u : Int) (W : World) (hs : St w0 R s av W)
    (hN : SlE 1 encI W A 4 [x, y, z, u]) (hl : s.net.length ≤ 1000) (hll : NetLen s.net) :
    Calls Tryz.prog 143 #[.pointer (some ⟨R, 0, none⟩), .slice A 4 c] W (Ran w0 R s [bs (ridesL (rideV 6 s.net x y z u))] (decide (0 ≤ postV 6 s.net x y z u)) av W) := by
  obtain ⟨Ab, cb, hc, hf, hsl, hcap, hR⟩ := hs.netAt
  obtain ⟨bb, off, rfl, g0, g1, g2, g3⟩ := num4 hN
  have hrf : (rideV 6 s.net x y z u).length ≤ 8 ∧ ∀ r ∈ rideV 6 s.net x y z u, RideBd r := rideV_facts (n := 6)
  have HF := Lib.hid (show ∀ W', Below W.heap.size W W' → Calls Tryz.prog 183 #[.int .i64 6, .slice Ab s.net.length cb, .int .i64 x, .int .i64 y, .int .i64 z, .int .i64 u] W' (RetOwnB 3 enc3 211 (rideV 6 s.net x y z u) (decide (0 ≤ postV 6 s.net x y z u)) W') from
    fun W' hW' => implPostWay_any Ab 6 s.net.length cb s.net x y z u W' (hsl.below hW') (by omega) hll)
  generalize rideV 6 s.net x y z u = rs at *
  generalize decide (0 ≤ postV 6 s.net x y z u) = bv at *
  have HRF := Lib.hid hrf
  have HS := Lib.hid hs
  have HCS := Lib.hid (show W.cell? ⟨R, 1, none⟩ = some (.slice Ab s.net.length cb) ∧ W.cell? ⟨bb, off, none⟩ = some (.int .i64 x) ∧ W.cell? ⟨bb, off + 1, none⟩ = some (.int .i64 y) ∧ W.cell? ⟨bb, off + 2, none⟩ = some (.int .i64 z) ∧ W.cell? ⟨bb, off + 3, none⟩ = some (.int .i64 u) from ⟨hc, g0, g1, g2, g3⟩)
  clear hN hs hsl hcap hll hrf hE
  generalize s.net.length = len at *
  go_enter Tryz.func143, Tryz.ntmps143
  go_wp2_with fail
  go_region_held3 (fun w' => w'.cell? ⟨R, 1, none⟩ = some (.slice Ab len cb) ∧ w'.cell? ⟨bb, off, none⟩ = some (.int .i64 x) ∧ w'.cell? ⟨bb, off + 1, none⟩ = some (.int .i64 y) ∧ w'.cell? ⟨bb, off + 2, none⟩ = some (.int .i64 z) ∧ w'.cell? ⟨bb, off + 3, none⟩ = some (.int .i64 u))
    (first | exact HCS.out | exact CZ2.out | fail)
    (first
      | (go_at_call 183; (with_reducible_and_instances refine (HF.out _ (below_drew (Below.refl W.heap.size W))).mono ?_); rintro e w2 ⟨v, rfl, hown, hb2⟩; have HB2 := Lib.hid ((below_drew (Below.refl W.heap.size W)).trans hb2); have CZ2 := Lib.hid (cells5_below hb2 (show W.drew.cell? ⟨R, 1, none⟩ = some (.slice Ab len cb) ∧ W.drew.cell? ⟨bb, off, none⟩ = some (.int .i64 x) ∧ W.drew.cell? ⟨bb, off + 1, none⟩ = some (.int .i64 y) ∧ W.drew.cell? ⟨bb, off + 2, none⟩ = some (.int .i64 z) ∧ W.drew.cell? ⟨bb, off + 3, none⟩ = some (.int .i64 u) from HCS.out)); have SS2 := Lib.hid ((HS.out.below (below_drew (Below.refl W.heap.size W))).below hb2); have HO2 := Lib.hid hown; clear hb2 hown)
      | fail)
  clear hc hf g0 g1 g2 g3 HCS CZ2 HS HF
  obtain ⟨m, hm⟩ : ∃ m, rs.length = m := ⟨_, rfl⟩
  obtain ⟨A2, c2, rfl, hsl2, -⟩ := HO2.out.slc enc3_len hm
  have HSL2 := Lib.hid hsl2
  have HM := Lib.hid hm
  have hm8 : m ≤ 8 := by rw [← hm]; exact HRF.out.1
  clear hsl2 hm HO2
  have OE := Lib.hid (own_new (enc := encS) (k := 1) w2 9 w2.heap.size (Nat.le_refl _) encS_len [] #[] rfl (by simp) rfl)
  obtain ⟨W2, rfl⟩ : ∃ W2, W2 = w2 := ⟨_, rfl⟩
  go_wp2_with fail
  go_loopw [8, 34] (fun v i wr => ∃ k : Nat, k ≤ m ∧ i = .int .i64 k ∧ OwnE 1 encS 9 W2.heap.size wr v ((rs.take k).map rideS) ∧ Below W2.heap.size W2 wr) (fun _ i _ => m - (intOf i).toNat)
  case atStart => exact ⟨0, by omega, rfl, OE.out, below_alloc (Below.refl _ _) _⟩
  case round =>
    obtain ⟨k, hk, rfl, hown, hbr⟩ := hrel
    have HO := Lib.hid hown
    have HR := Lib.hid hbr
    have hsz := hbr.size
    clear hown hbr OE
    by_cases hkm : k < m
    rotate_left
    · obtain rfl : k = m := by omega
      rw [List.take_of_length_le (by rw [HM.out]; exact Nat.le_refl _)] at HO
      have HJN := Lib.hid (join_any HO.out [32] (by rw [List.length_map, HM.out]; omega) (by rw [rideS_join]; have := ridesBd_len HRF.out.1 HRF.out.2; omega))
      rw [rideS_join] at HJN
      generalize ridesL rs = tx at *
      go_wp2_with fail
      refine HJN.out.mono ?_
      rintro e w3 ⟨rfl, hb3⟩
      have HB3 := Lib.hid (HR.out.trans (hb3.mono hsz))
      have HB4 := Lib.hid (below_trans HB2.out HB3.out)
      clear hb3 HJN
      go_wp2_with fail
      go_ret2
      exact ⟨_, rfl, own_new w3 _ _ HB4.out.size encS_len [bs tx] _ rfl (by unfold maxLen; simp) rfl, (grown_of_below (below_alloc HB4.out _) _), SS2.out.below (below_alloc HB3.out _)⟩
    · obtain ⟨b2, off2, a1, a2, a3, rfl, hbl, hx, -, r0, r1, r2⟩ := at3 HSL2.out HR.out hkm
      have hob := HRF.out.2 _ (mem_at hx)
      unfold RideBd at hob
      dsimp only at hob
      obtain ⟨a1, rfl⟩ : ∃ i : Nat, a1 = i := ⟨a1.toNat, by omega⟩
      obtain ⟨a2, rfl⟩ : ∃ i : Nat, a2 = i := ⟨a2.toNat, by omega⟩
      obtain ⟨a3, rfl⟩ : ∃ i : Nat, a3 = i := ⟨a3.toNat, by omega⟩
      have hw1 := decDigits_len 1 a1 (by omega) (by omega)
      have hw2 := decDigits_len 1 a2 (by omega) (by omega)
      have hw3 := decDigits_len 1 a3 (by omega) (by omega)
      have HTN := Lib.hid (rideL_nat (x := a1) (y := a2) (z := a3))
      have HD1 := Lib.hid (fun W' hW' => itoa_small (x := (a1 : Int)) (by omega) (by omega) wr W' hW')
      have HD2 := Lib.hid (fun W' hW' => itoa_small (x := (a2 : Int)) (by omega) (by omega) wr W' hW')
      have HD3 := Lib.hid (fun W' hW' => itoa_small (x := (a3 : Int)) (by omega) (by omega) wr W' hW')
      rw [Int.toNat_natCast] at HD1 HD2 HD3
      have B1 := Lib.hid (below_alloc (Below.refl wr.heap.size wr) (.cells #[.int .i64 (a1 : Int), .int .i64 (a2 : Int), .int .i64 (a3 : Int)] 211))
      have HC0 := Lib.hid (show (wr.alloc (.cells #[.int .i64 (a1 : Int), .int .i64 (a2 : Int), .int .i64 (a3 : Int)] 211)).cell? ⟨wr.heap.size, 0, none⟩ = some (.int .i64 (a1 : Int)) ∧ (wr.alloc (.cells #[.int .i64 (a1 : Int), .int .i64 (a2 : Int), .int .i64 (a3 : Int)] 211)).cell? ⟨wr.heap.size, 1, none⟩ = some (.int .i64 (a2 : Int)) ∧ (wr.alloc (.cells #[.int .i64 (a1 : Int), .int .i64 (a2 : Int), .int .i64 (a3 : Int)] 211)).cell? ⟨wr.heap.size, 2, none⟩ = some (.int .i64 (a3 : Int)) from ⟨by simp, by simp, by simp⟩)
      have HLJ := Lib.hid (show ((rs.take k).map rideS).length = k by rw [List.length_map, List.length_take, HM.out]; omega)
      have HNX := Lib.hid (show (rs.take (k + 1)).map rideS = (rs.take k).map rideS ++ [bs (rideL ⟨(a1 : Int), (a2 : Int), (a3 : Int)⟩)] by rw [take_next hx, List.map_append]; rfl)
      have HOF := Lib.hid (fun W (hW : Below wr.heap.size wr W) => OwnE.below HO.out hW (Nat.le_refl _))
      have HWZ := Lib.hid hsz
      clear hx hob
      have ad1 : ∀ W, (Op.stringOp .add (bs (Lib.decDigits a1)) ⟨#[58]⟩).run Tryz.prog W = .ok (.string (bs (Lib.decDigits a1 ++ [58]))) W := add_lists (Lib.decDigits a1) [58] (Nat.le_trans hw1 (by decide)) (by decide)
      have lad1 := lj_app hw1 (show ([58] : List UInt8).length ≤ 1 from Nat.le_refl _)
      have ad2 : ∀ W, (Op.stringOp .add (bs (Lib.decDigits a1 ++ [58])) (bs (Lib.decDigits a2))).run Tryz.prog W = .ok (.string (bs (Lib.decDigits a1 ++ [58] ++ Lib.decDigits a2))) W := add_lists (Lib.decDigits a1 ++ [58]) (Lib.decDigits a2) (Nat.le_trans lad1 (by decide)) (Nat.le_trans hw2 (by decide))
      have lad2 := lj_app lad1 hw2
      have ad3 : ∀ W, (Op.stringOp .add (bs (Lib.decDigits a1 ++ [58] ++ Lib.decDigits a2)) ⟨#[45]⟩).run Tryz.prog W = .ok (.string (bs (Lib.decDigits a1 ++ [58] ++ Lib.decDigits a2 ++ [45]))) W := add_lists (Lib.decDigits a1 ++ [58] ++ Lib.decDigits a2) [45] (Nat.le_trans lad2 (by decide)) (by decide)
      have lad3 := lj_app lad2 (show ([45] : List UInt8).length ≤ 1 from Nat.le_refl _)
      have ad4 : ∀ W, (Op.stringOp .add (bs (Lib.decDigits a1 ++ [58] ++ Lib.decDigits a2 ++ [45])) (bs (Lib.decDigits a3))).run Tryz.prog W = .ok (.string (bs (rideL ⟨(a1 : Int), (a2 : Int), (a3 : Int)⟩))) W := fun W => by
        rw [HTN.out]
        exact add_lists (Lib.decDigits a1 ++ [58] ++ Lib.decDigits a2 ++ [45]) (Lib.decDigits a3) (Nat.le_trans lad3 (by decide)) (Nat.le_trans hw3 (by decide)) W
      clear lad1 lad2 lad3 hw1 hw2 hw3 HTN
      generalize hTN : bs (rideL ⟨(a1 : Int), (a2 : Int), (a3 : Int)⟩) = TN at *
      clear hTN
      generalize bs (Lib.decDigits a1 ++ [58] ++ Lib.decDigits a2 ++ [45]) = T2 at *
      generalize bs (Lib.decDigits a1 ++ [58] ++ Lib.decDigits a2) = T1 at *
      generalize bs (Lib.decDigits a1 ++ [58]) = T0 at *
      generalize bs (Lib.decDigits a1) = D1 at *
      generalize bs (Lib.decDigits a2) = D2 at *
      generalize bs (Lib.decDigits a3) = D3 at *
      generalize (rs.take k).map rideS = qs at *
      have N1 := Lib.hid (show (qs.length + 1) * 16 ≤ 140737488355328 ∧ qs.length + 1 ≤ maxLen by rw [HLJ.out]; unfold maxLen; omega)
      go_wp2_with fail
      go_region_held3 (fun w' => w'.cell? ⟨wr.heap.size, 0, none⟩ = some (.int .i64 (a1 : Int)) ∧ w'.cell? ⟨wr.heap.size, 1, none⟩ = some (.int .i64 (a2 : Int)) ∧ w'.cell? ⟨wr.heap.size, 2, none⟩ = some (.int .i64 (a3 : Int)))
        (first | exact HC0.out | exact CZ2.out | exact CZ3.out | exact CZ4.out | exact CZ5.out | exact CZ6.out | fail)
        (first
          | (go_at_call 68; have HQ := HB3; (with_reducible_and_instances refine (HD3.out _ HB3.out).mono ?_); rintro e w4 ⟨rfl, hb4⟩; have HB4 := Lib.hid (below_trans HB3.out hb4); have CZ4 := Lib.hid (cells3_below hb4 CZ3.out); have OA := Lib.hid ((HOF.out w4 HB4.out).alloc (.cells #[.string TN] 9)); have SN := Lib.hid (slE_new (enc := encS) (k := 1) w4 9 encS_len [TN] #[.string TN] rfl (by unfold maxLen; simp) (n := 1) rfl (g := w4.heap.size) rfl); have BA := Lib.hid (below_alloc HB4.out (.cells #[.string TN] 9)); have XA := Lib.hid (Nat.le_trans HWZ.out BA.out.size); have CZ5 := Lib.hid (cells3_below (below_alloc (Below.refl _ w4) (.cells #[.string TN] 9)) CZ4.out); clear hb4)
          | (go_at_call 68; have HQ := HBQ; (with_reducible_and_instances refine (HD2.out _ HBQ.out).mono ?_); rintro e w3 ⟨rfl, hb3⟩; have HB3 := Lib.hid (below_trans HBQ.out hb3); have CZ3 := Lib.hid (cells3_below hb3 CZ2.out); clear hb3)
          | (go_at_call 68; (with_reducible_and_instances refine (HD1.out _ (below_drew B1.out)).mono ?_); rintro e w2 ⟨rfl, hb2⟩; have HBQ := Lib.hid (below_trans (below_drew B1.out) hb2); have CZ2 := Lib.hid (cells3_below hb2 HC0.out); clear hb2)
          | (go_loud (refine step_cat (bytes := 16) (base := W2.heap.size) encS_len encS_one (Nat.succ_pos 0) rfl (.tmp 38) (.tmp 52) _ rfl Tryz.underlying60 info_str rfl _ qs rfl OA.out rfl SN.out N1.out.1 N1.out.2 XA.out ?_; intro v2 w5 hown2 hg2; have O5 := Lib.hid hown2; have B5 := Lib.hid ((HR.out.trans (BA.out.mono HWZ.out)).grown hg2 XA.out (fun j hj => (OA.out.lt j hj).1)); have CZ6 := Lib.hid (show w5.cell? ⟨wr.heap.size, 0, none⟩ = some (.int .i64 (a1 : Int)) ∧ w5.cell? ⟨wr.heap.size, 1, none⟩ = some (.int .i64 (a2 : Int)) ∧ w5.cell? ⟨wr.heap.size, 2, none⟩ = some (.int .i64 (a3 : Int)) from cells3_grown hg2 CZ5.out (own_low HO.out)); clear hown2 hg2))
          | fail)
      go_wp2_with fail
      go_roundw
      case rel => exact ⟨k + 1, by omega, by go_num, by rw [HNX.out]; exact O5.out, B5.out⟩
      case measure => simp [intOf]; omega
end Go.Proofs.YtgjllminidlolaaGreatDoor
