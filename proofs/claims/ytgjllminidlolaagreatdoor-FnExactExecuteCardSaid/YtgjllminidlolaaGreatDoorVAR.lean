/- Texts of mine in one: PWalkG PWalkF PWalkH PWalkJ. -/
import Derived.Test.YtgjllminidlolaaGreatDoorVAQ
import Derived.Test.YtgjllminidlolaaGreatDoorVAD
import Derived.BigQuiet
import Derived.Test.YtgjllminidlolaaGreatDoorVAO
/- Contracts: the table of the reference: l7Ready, l7Table. -/
set_option linter.unusedVariables false
namespace Go.Proofs.YtgjllminidlolaaGreatDoor
open Go.RowKit

/-- A table of n times at block T. -/
structure TbAt (T n : Nat) (f : Int → Int) (W : World) : Prop where
  tl : T < W.heap.size
  at_ : ∀ k : Nat, k < n → W.cell? ⟨T, k, none⟩ = some (.int .i64 (f k))
  frz : ∀ j, W.frozen? ⟨T, j, none⟩ = false
section
variable {T n : Nat} {f : Int → Int} {W W' : World}
theorem TbAt.below (h : TbAt T n f W) (hb : Below W.heap.size W W') : TbAt T n f W' :=
  ⟨Nat.lt_of_lt_of_le h.tl hb.size, fun k hk => by rw [hb.cell h.tl]; exact h.at_ k hk, fun j => by rw [hb.frozen h.tl]; exact h.frz j⟩
theorem TbAt.put (h : TbAt T n f W) (k : Nat) (d : Int) (hk : k < n) : TbAt T n (updI f k d) (W.setCell ⟨T, k, none⟩ (.int .i64 d)) := by
  have hs : (W.setCell ⟨T, k, none⟩ (.int .i64 d)).heap.size = W.heap.size := by simp [World.setCell]
  refine ⟨by rw [hs]; exact h.tl, fun j hj => ?_, fun j => by rw [World.frozen?_setCell]; exact h.frz j⟩
  by_cases e : j = k
  · subst e
    rw [World.cell?_setCell_same _ _ _ (h.at_ j hj), updI_self]
  · rw [World.cell?_setCell_other _ _ _ _ (fun h2 => e (by injection h2 with _ h3; exact h3.symm)), h.at_ j hj, updI_ne (by omega)]
theorem TbAt.of_own {base c : Nat} {x : Int} {A : Option Addr} (h : OwnE 1 encI 3 base W (.slice A n c) (List.replicate n x)) (hn : 1 ≤ n) : ∃ T, A = some ⟨T, 0, none⟩ ∧ base ≤ T ∧ TbAt T n (fun _ => x) W := by
  obtain ⟨g, rfl, -, hg0, hg1, hfz⟩ := h.form (by simp; omega)
  refine ⟨g, rfl, hg0, hg1, fun k hk => ?_, hfz⟩
  exact OwnE.cell1 h (by rw [List.getElem?_replicate, if_pos hk])
end

set_option maxRecDepth 20000 in
set_option maxHeartbeats 1600000 in
theorem l7Ready_any {T n c : Nat} {s0 ch : Int} {f : Int → Int} (x : Nat) (y z : Int) (W : World) (h : TbAt T n f W) (hx : x < n) (hf : -1 ≤ f x ∧ f x ≤ 10000) (hch : 0 ≤ ch ∧ ch ≤ 10000) :
    Calls Tryz.prog 131 #[.slice (some ⟨T, 0, none⟩) n c, .int .i64 s0, .agg #[.int .i64 x, .int .i64 y, .int .i64 z], .int .i64 ch] W (OnlyB (Rdy f s0 ch ⟨x, y, z⟩) W) := by
  obtain ⟨htl, gt, -⟩ := h
  have gx := gt x hx
  generalize hv : f x = v at *
  have hR : Hid (Rdy f s0 ch ⟨x, y, z⟩ ↔ 0 ≤ v ∧ v + lag s0 ch x ≤ z) := Lib.hid (by unfold Rdy; dsimp only; rw [hv])
  have HB := Lib.hid (below_alloc (Below.refl W.heap.size W) (.cells #[.int .i64 (x : Int), .int .i64 y, .int .i64 z] 103))
  have hxn : (x : Int) < (n : Int) := by omega
  clear gt hv
  by_cases hv0 : v < 0
  · have HN := Lib.hid (show ¬ Rdy f s0 ch ⟨x, y, z⟩ from fun h => by have := hR.out.1 h; omega)
    go_enter Tryz.func131, Tryz.ntmps131
    go_wp2_with fail
    go_ret
    exact onlyB_false HN.out HB.out
  by_cases hs : (x : Int) = s0
  · have ds : ((x : Int) == s0) = true := by simpa using hs
    have HR2 : Hid (Rdy f s0 ch ⟨x, y, z⟩ ↔ v ≤ z) := Lib.hid (by rw [hR.out]; unfold lag; rw [if_pos hs]; omega)
    clear hs
    go_enter Tryz.func131, Tryz.ntmps131
    go_wp2_with fail
    go_quiet (fail)
    go_wp2_with fail
    go_ret
    exact ⟨decide (v ≤ z), rfl, by rw [HR2.out]; exact decide_eq_true_iff, bl_drewN HB.out _⟩
  · have ds : ((x : Int) == s0) = false := by simpa using hs
    have HR2 : Hid (Rdy f s0 ch ⟨x, y, z⟩ ↔ v + ch ≤ z) := Lib.hid (by rw [hR.out]; unfold lag; rw [if_neg hs]; omega)
    have ew : IntKind.i64.wrap (v + ch) = v + ch := IntWalk.i64_in _ (by omega)
    clear hs
    go_enter Tryz.func131, Tryz.ntmps131
    go_wp2_with fail
    go_quiet (fail)
    go_wp2_with fail
    go_ret
    exact ⟨decide (v + ch ≤ z), rfl, by rw [HR2.out]; exact decide_eq_true_iff, bl_drewN HB.out _⟩

/-- A table has been made. -/
def Tabled (n : Nat) (f : Int → Int) (w : World) (e : Ending) (w' : World) : Prop :=
  Below w.heap.size w w' ∧ ∃ T c, e = .returned (.slice (some ⟨T, 0, none⟩) n c) ∧ TbAt T n f w' ∧ w.heap.size ≤ T
theorem stopP_off {s0 ch : Int} {f : Int → Int} {p : T3} : stopP s0 ch (f, false) p = (f, decide (Rdy f s0 ch p)) := by simp [stopP]
theorem stopP_put {s0 ch : Int} {f : Int → Int} {p : T3} (h : f p.a < 0 ∨ p.b < f p.a) : stopP s0 ch (f, true) p = (updI f p.a p.b, true) := by simp [stopP, h]
theorem stopP_keep {s0 ch : Int} {f : Int → Int} {p : T3} (h : ¬ (f p.a < 0 ∨ p.b < f p.a)) : stopP s0 ch (f, true) p = (f, true) := by
  unfold stopP
  dsimp only
  rw [if_neg (fun h2 => h h2.2)]
  rfl
theorem coach_upto {s0 ch : Int} {f : Int → Int} {xs : List T3} {i : Nat} {p : T3} (h : xs[i]? = some p) : (xs.take (i + 1)).foldl (stopP s0 ch) (f, false) = stopP s0 ch ((xs.take i).foldl (stopP s0 ch) (f, false)) p := by
  rw [take_next h, List.foldl_append]
  rfl
theorem round_upto {s0 ch : Int} {f : Int → Int} {net : List (List T3)} {c : Nat} {xs : List T3} (h : net[c]? = some xs) : (net.take (c + 1)).foldl (coachP s0 ch) f = coachP s0 ch ((net.take c).foldl (coachP s0 ch) f) xs := by
  rw [take_next h, List.foldl_append]
  rfl
set_option maxRecDepth 20000 in
set_option maxHeartbeats 6400000 in
theorem l7Table_any (A : Option Addr) (n m cap : Nat) (net : List (List T3)) (s0 : Nat) (t0 ch : Int) (w : World) (h : NetS w A m net) (hok : PostOk n net s0 t0 ch) :
    Calls Tryz.prog 98 #[.int .i64 n, .slice A m cap, .int .i64 s0, .int .i64 t0, .int .i64 ch] w (Tabled n (roundsP s0 t0 ch net (n + 1)) w) := by
  have H := Lib.hid h
  have HL := Lib.hid h.len
  have HOK := Lib.hid hok
  have hn1 := hok.net.1
  have hn8 := hok.net.2.1
  have hm6 := hok.net.2.2.1
  rw [HL.out] at hm6
  have hs0 := hok.s0
  clear h hok
  go_enter Tryz.func98, Tryz.ntmps98
  go_wp2_with fail
  go_loopw [11, 12] (fun v i wr => ∃ k : Nat, k ≤ n ∧ i = .int .i64 k ∧ OwnE 1 encI 3 w.heap.size wr v (List.replicate k (-1)) ∧ Below w.heap.size w wr) (fun _ i _ => n - (intOf i).toNat)
  case atStart => exact ⟨0, by omega, rfl, own_new w _ _ (Nat.le_refl _) encI_len [] #[] rfl (by simp) rfl, below_alloc (Below.refl _ _) _⟩
  case round =>
    obtain ⟨k, hk, rfl, hown, hbr⟩ := hrel
    have HR := Lib.hid hbr
    have HO := Lib.hid hown
    have hsz := hbr.size
    clear hbr hown
    by_cases hkn : k < n
    · have hrl : (List.replicate k (-1 : Int)).length = k := by simp
      have HRL := Lib.hid hrl
      have HRN := Lib.hid (show List.replicate (k + 1) (-1 : Int) = List.replicate k (-1) ++ [-1] from List.replicate_succ')
      clear hrl
      generalize List.replicate k (-1 : Int) = rs at *
      go_wp2_with (at_builtin; refine wpList_push 1 8 3 encI encI_len encI_one (by omega) (-1) _ _ rfl rfl _ _ _ rfl Tryz.underlying29 info_intN rfl w.heap.size _ _ rfl rfl rfl HO.out (by rw [HRL.out]; omega) (by rw [HRL.out]; unfold maxLen; omega) hsz ?_; intro v' w' hown' hg'; have HO' := Lib.hid hown'; have HB' := Lib.hid (below_grown HR.out hg' HO.out (Nat.le_refl _)); clear hown' hg')
      go_roundw
      case rel => exact ⟨k + 1, by omega, by go_num, by rw [HRN.out]; exact HO'.out, HB'.out⟩
      case measure => simp [intOf]; omega
    obtain rfl : k = n := by omega
    obtain ⟨A1, c1, rfl, -, hc1⟩ := HO.out.slc encI_len (n := k) (by simp)
    obtain ⟨T, rfl, hT, htb⟩ := TbAt.of_own HO.out (by omega)
    have HT := Lib.hid hT
    have TB := Lib.hid (htb.put s0 t0 (by omega))
    have gz := htb.frz s0
    have gc := htb.at_ s0 (by omega)
    have i1 : (s0 : Int) < (k : Int) := by omega
    have HB1 := Lib.hid (HR.out.setCell (p := ⟨T, s0, none⟩) hT (.int .i64 t0))
    have hTs := htb.tl
    clear htb HO hT
    go_wp2_with fail
    obtain ⟨n, rfl⟩ : ∃ n, n = k := ⟨_, rfl⟩
    obtain ⟨W1, hW1⟩ : ∃ W1, W1 = wr.setCell ⟨T, s0, none⟩ (.int .i64 t0) := ⟨_, rfl⟩
    rw [← hW1] at TB HB1 ⊢
    clear hW1 gz gc hTs
    go_loopw [13] (fun r wr2 => ∃ r' : Nat, r' ≤ n + 1 ∧ r = .int .i64 r' ∧ TbAt T n (roundsP s0 t0 ch net r') wr2 ∧ Below w.heap.size w wr2) (fun r _ => n + 1 - (intOf r).toNat)
    case atStart => exact ⟨0, by omega, rfl, TB.out, HB1.out⟩
    case round =>
      obtain ⟨r, hr, rfl, htb, hbr⟩ := hrel
      have TR := Lib.hid htb
      have HR2 := Lib.hid hbr
      clear htb hbr
      by_cases hrn : r ≤ n
      rotate_left
      · obtain rfl : r = n + 1 := by omega
        go_wp2_with fail
        go_ret
        exact ⟨HR2.out, T, c1, rfl, TR.out, HT.out⟩
      have HSR := Lib.hid (rounds_snd HOK.out r).1
      have HRX := Lib.hid (show roundsP s0 t0 ch net (r + 1) = net.foldl (coachP s0 ch) (roundsP s0 t0 ch net r) from rfl)
      obtain ⟨fr, hfr⟩ : ∃ fr, roundsP s0 t0 ch net r = fr := ⟨_, rfl⟩
      rw [hfr] at TR HSR HRX
      have HFR := Lib.hid hfr
      clear hfr
      go_wp2_with fail
      go_loopw [14] (fun c wr3 => ∃ c' : Nat, c' ≤ m ∧ c = .int .i64 c' ∧ TbAt T n ((net.take c').foldl (coachP s0 ch) fr) wr3 ∧ Below w.heap.size w wr3) (fun c _ => m - (intOf c).toNat)
      case atStart => exact ⟨0, by omega, rfl, TR.out, HR2.out⟩
      case round =>
        obtain ⟨c, hc, rfl, htb, hbr⟩ := hrel
        have TC := Lib.hid htb
        have HR3 := Lib.hid hbr
        clear htb hbr
        by_cases hcm : c < m
        rotate_left
        · obtain rfl : c = m := by omega
          have HTE := Lib.hid (show TbAt T n (roundsP s0 t0 ch net (r + 1)) wr from by
            have h1 := TC.out
            rw [List.take_of_length_le (by rw [HL.out]; exact Nat.le_refl _), ← HRX.out] at h1
            exact h1)
          go_wp2_with fail
          go_roundw
          case rel => exact ⟨r + 1, by omega, by go_num, HTE.out, HR3.out⟩
          case measure => simp [intOf]; omega
        obtain ⟨b, off, A', n', c', xs, rfl, hbl, hcell, hx, hsl, hnc⟩ := H.out.at_ (Below.refl _ _) hcm
        have HX := Lib.hid hx
        have HSL := Lib.hid hsl
        have HCL := Lib.hid (fun W (hW : Below w.heap.size w W) => (cell_below' hW hcell : W.cell? ⟨b, off + c, none⟩ = some (.slice A' n' c')))
        have hn8' : n' ≤ 8 := by have h1 := (HOK.out.net.2.2.2 xs (List.mem_of_getElem? hx)).2.2.2.1; rw [hsl.len] at h1; exact h1
        have HSC := Lib.hid (round_fold HOK.out (net.take c) fr (fun ys hy => List.mem_of_mem_take hy) HSR.out).1
        have HUC := Lib.hid (round_upto (s0 := (s0 : Int)) (ch := ch) (f := fr) hx)
        obtain ⟨fc, hfc⟩ : ∃ fc, (net.take c).foldl (coachP s0 ch) fr = fc := ⟨_, rfl⟩
        rw [hfc] at TC HSC HUC
        clear hx hsl hcell hfc
        go_wp2_with fail
        go_loopw [15, 16] (fun on i wr4 => ∃ (q : Nat) (f1 : Int → Int) (ob : Bool), q ≤ n' ∧ i = .int .i64 q ∧ on = .bool ob ∧ (xs.take q).foldl (stopP s0 ch) (fc, false) = (f1, ob) ∧ TbAt T n f1 wr4 ∧ Below w.heap.size w wr4) (fun _ i _ => n' - (intOf i).toNat)
        case atStart => exact ⟨0, fc, false, by omega, rfl, rfl, rfl, TC.out, HR3.out⟩
        case round =>
          obtain ⟨q, f1, ob, hq, rfl, rfl, hst, htb, hbr⟩ := hrel
          have TI := Lib.hid htb
          have HR4 := Lib.hid hbr
          have HST := Lib.hid hst
          have hcell := HCL.out _ hbr
          clear htb hbr hst
          by_cases hqn : q < n'
          rotate_left
          · obtain rfl : q = n' := by omega
            have HTE := Lib.hid (show TbAt T n ((net.take (c + 1)).foldl (coachP s0 ch) fr) wr from by
              have h1 := HST.out
              rw [List.take_of_length_le (by rw [HSL.out.len]; exact Nat.le_refl _)] at h1
              rw [HUC.out]
              unfold coachP
              rw [h1]
              exact TI.out)
            go_wp2_with fail
            go_roundw
            case rel => exact ⟨c + 1, by omega, by go_num, HTE.out, HR4.out⟩
            case measure => simp [intOf]; omega
          obtain ⟨b2, off2, x, y, z, rfl, hbl2, hp, -, g0, g1, g2⟩ := at3 HSL.out HR4.out hqn
          have hxs := List.mem_of_getElem? HX.out
          have hpb := stop_bd HOK.out.net hxs hp
          dsimp only at hpb
          obtain ⟨x, rfl⟩ : ∃ i : Nat, x = i := ⟨x.toNat, by omega⟩
          have HUP := Lib.hid (coach_upto (s0 := (s0 : Int)) (ch := ch) (f := fc) hp)
          have hsn : SndP net s0 t0 ch f1 := by
            have h1 := (coach_fold HOK.out hxs HSC.out q (by rw [HSL.out.len]; exact hq)).1.1
            rw [HST.out] at h1
            exact h1
          have hbd := snd_bd HOK.out hsn (x : Int)
          have BX := Lib.hid (below_alloc (Below.refl wr.heap.size wr) (.cells #[.int .i64 (x : Int), .int .i64 y, .int .i64 z] 103))
          have TX := Lib.hid (TI.out.below BX.out)
          have HBX := Lib.hid (HR4.out.trans (BX.out.mono HR4.out.size))
          have hxn : (x : Int) < (n : Int) := by omega
          have hxn2 : x < n := by omega
          clear hp hsn
          cases ob with
          | false =>
            have HRY := Lib.hid (fun W h => l7Ready_any (T := T) (n := n) (c := c1) (s0 := (s0 : Int)) (ch := ch) (f := f1) x y z W h hxn2 ⟨hbd.1, hbd.2.1⟩ HOK.out.ch)
            by_cases hrd : Rdy f1 s0 ch ⟨(x : Int), y, z⟩
            · have HRD := Lib.hid hrd
              clear hrd hbd
              go_wp2_with fail
              go_quiet (fail)
              go_wp2_with fail
              refine (HRY.out _ (TX.out.below (bl_drewN (Below.refl _ _) _))).mono ?_
              intro e w5 hp
              obtain ⟨rfl, hb5⟩ := hp.yes HRD.out
              have T5 := Lib.hid ((TX.out.below (bl_drewN (Below.refl _ _) _)).below hb5)
              have HB5 := Lib.hid (below_trans (bl_drewN HBX.out _) hb5)
              clear hp hb5
              go_wp2_with fail
              go_roundw
              case rel => exact ⟨q + 1, f1, true, by omega, by go_num, rfl, by rw [HUP.out, HST.out, stopP_off, decide_eq_true HRD.out], T5.out, HB5.out⟩
              case measure => simp [intOf]; omega
            · have HRD := Lib.hid hrd
              clear hrd hbd
              go_wp2_with fail
              go_quiet (fail)
              go_wp2_with fail
              refine (HRY.out _ (TX.out.below (bl_drewN (Below.refl _ _) _))).mono ?_
              intro e w5 hp
              obtain ⟨rfl, hb5⟩ := hp.no HRD.out
              have T5 := Lib.hid ((TX.out.below (bl_drewN (Below.refl _ _) _)).below hb5)
              have HB5 := Lib.hid (below_trans (bl_drewN HBX.out _) hb5)
              clear hp hb5
              go_wp2_with fail
              go_roundw
              case rel => exact ⟨q + 1, f1, false, by omega, by go_num, rfl, by rw [HUP.out, HST.out, stopP_off, decide_eq_false HRD.out], T5.out, HB5.out⟩
              case measure => simp [intOf]; omega
          | true =>
            obtain ⟨v, hv⟩ : ∃ v, f1 x = v := ⟨_, rfl⟩
            have hcx := TI.out.at_ x hxn2
            have hfx := TI.out.frz x
            have htl := TI.out.tl
            rw [hv] at hcx hbd
            have HV := Lib.hid hv
            clear hv
            by_cases hv0 : v < 0
            · have dv : decide (v < 0) = true := by simp [hv0]
              have TP := Lib.hid (fun W (h : TbAt T n f1 W) => h.put x y hxn2)
              have HPU := Lib.hid (show f1 (⟨(x : Int), y, z⟩ : T3).a < 0 ∨ (⟨(x : Int), y, z⟩ : T3).b < f1 (⟨(x : Int), y, z⟩ : T3).a from .inl (by show f1 x < 0; rw [HV.out]; exact hv0))
              go_wp2_with fail
              go_quiet (fail)
              go_wp2_with fail
              go_roundw
              case rel => exact ⟨q + 1, updI f1 x y, true, by omega, by go_num, rfl, by rw [HUP.out, HST.out, stopP_put HPU.out], TP.out _ (TX.out.below (bl_drewN (Below.refl _ _) _)), (bl_drewN HBX.out _).setCell (p := ⟨T, x, none⟩) HT.out _⟩
              case measure => simp [intOf]; omega
            by_cases hyv : y < v
            · have dv : decide (v < 0) = false := by simp; omega
              have dy : decide (y < v) = true := by simp [hyv]
              have TP := Lib.hid (fun W (h : TbAt T n f1 W) => h.put x y hxn2)
              have HPU := Lib.hid (show f1 (⟨(x : Int), y, z⟩ : T3).a < 0 ∨ (⟨(x : Int), y, z⟩ : T3).b < f1 (⟨(x : Int), y, z⟩ : T3).a from .inr (by show y < f1 x; rw [HV.out]; exact hyv))
              go_wp2_with fail
              go_quiet (fail)
              go_wp2_with fail
              go_roundw
              case rel => exact ⟨q + 1, updI f1 x y, true, by omega, by go_num, rfl, by rw [HUP.out, HST.out, stopP_put HPU.out], TP.out _ (TX.out.below (bl_drewN (Below.refl _ _) _)), (bl_drewN HBX.out _).setCell (p := ⟨T, x, none⟩) HT.out _⟩
              case measure => simp [intOf]; omega
            · have dv : decide (v < 0) = false := by simp; omega
              have dy : decide (y < v) = false := by simp; omega
              have HPU := Lib.hid (show ¬ (f1 (⟨(x : Int), y, z⟩ : T3).a < 0 ∨ (⟨(x : Int), y, z⟩ : T3).b < f1 (⟨(x : Int), y, z⟩ : T3).a) from fun h => by
                have h2 : f1 x < 0 ∨ y < f1 x := h
                rw [HV.out] at h2
                omega)
              go_wp2_with fail
              go_quiet (fail)
              go_wp2_with fail
              go_roundw
              case rel => exact ⟨q + 1, f1, true, by omega, by go_num, rfl, by rw [HUP.out, HST.out, stopP_keep HPU.out], TX.out.below (bl_drewN (Below.refl _ _) _), bl_drewN HBX.out _⟩
              case measure => simp [intOf]; omega
end Go.Proofs.YtgjllminidlolaaGreatDoor
/- Contracts: newPostTable, PostTable, PostArrive of the program. -/
set_option linter.unusedVariables false
namespace Go.Proofs.YtgjllminidlolaaGreatDoor
open Go.RowKit

/-- A table with the first town alone. -/
def FreshP (n : Int) (V : Value) (net : List (List T3)) (s0 t0 ch : Int) (w : World) (e : Ending) (w' : World) : Prop :=
  Below w.heap.size w w' ∧ ((PostQ n net s0 t0 ch ∧ ∃ P T, e = .returned (.pointer (some ⟨P, 0, none⟩)) ∧ PtAt P T V s0 ch n.toNat n.toNat (tstart s0 t0) w' ∧ w.heap.size ≤ P ∧ w.heap.size ≤ T) ∨ (¬ PostQ n net s0 t0 ch ∧ e = .returned (.pointer none)))
theorem pt_new {w : World} {T n : Nat} {N : Value} {s0 ch : Int} (hg : w.heap[T]? = some (.cells (List.replicate n (Value.int .i64 (-1))).toArray 3 (0, 0))) (ty : TypeId) :
    PtAt w.heap.size T N s0 ch n n (fun _ => -1) (w.alloc (.cells #[N, .int .i64 s0, .int .i64 ch, .slice (some ⟨T, 0, none⟩) n n] ty)) := by
  have hT : T < w.heap.size := by
    rcases Nat.lt_or_ge T w.heap.size with h | h
    · exact h
    · rw [Array.getElem?_eq_none h] at hg; cases hg
  have hz : (w.alloc (.cells #[N, .int .i64 s0, .int .i64 ch, .slice (some ⟨T, 0, none⟩) n n] ty)).heap.size = w.heap.size + 1 := by simp
  have hp : ∀ j, (w.alloc (.cells #[N, .int .i64 s0, .int .i64 ch, .slice (some ⟨T, 0, none⟩) n n] ty)).cell? ⟨w.heap.size, j, none⟩ = (#[N, .int .i64 s0, .int .i64 ch, .slice (some ⟨T, 0, none⟩) n n] : Array Value)[j]? := fun j => cell_of_row _ _ j _ ty (0, 0) (heap_alloc_new w _)
  refine ⟨by omega, by rw [hz]; omega, by rw [hz]; omega, hp 0, hp 1, hp 2, hp 3, fun k hk => ?_, fun j => ?_⟩
  · rw [World.cell?_alloc_lt _ _ _ hT, cell_of_row w T k _ 3 (0, 0) hg, List.getElem?_toArray, List.getElem?_replicate, if_pos hk]
  · rw [(below_alloc (Below.refl w.heap.size w) (.cells #[N, .int .i64 s0, .int .i64 ch, .slice (some ⟨T, 0, none⟩) n n] ty)).frozen hT]
    exact frozen_of_row w T j _ 3 hg
set_option maxRecDepth 20000 in
set_option maxHeartbeats 1600000 in
theorem newPostTable_any (A : Option Addr) (n : Int) (m cap : Nat) (net : List (List T3)) (s0 t0 ch : Int) (w : World) (h : NetS w A m net) (hm : m ≤ 16777216) (hl : NetLen net) :
    Calls Tryz.prog 95 #[.int .i64 n, .slice A m cap, .int .i64 s0, .int .i64 t0, .int .i64 ch] w (FreshP n (.slice A m cap) net s0 t0 ch w) := by
  have HNV := Lib.hid (implNetValid_any A n m cap net w h hm hl)
  clear h hm hl
  by_cases hN : NetOk n net
  rotate_left
  · have HN := Lib.hid hN
    clear hN
    go_enter Tryz.func95, Tryz.ntmps95
    go_wp2_with fail
    refine HNV.out.mono ?_
    intro e w1 hp
    obtain ⟨rfl, hb1⟩ := hp.no HN.out
    have HB1 := Lib.hid hb1
    clear hp hb1
    go_wp2_with fail
    go_ret
    exact ⟨HB1.out, .inr ⟨fun h => HN.out h.1, rfl⟩⟩
  have HN := Lib.hid hN
  clear hN
  by_cases h1 : 0 ≤ s0 ∧ s0 < n
  rotate_left
  · go_enter Tryz.func95, Tryz.ntmps95
    go_wp2_with fail
    refine HNV.out.mono ?_
    intro e w1 hp
    obtain ⟨rfl, hb1⟩ := hp.yes HN.out
    have HB1 := Lib.hid hb1
    clear hp hb1
    go_wp2_with fail
    refine (townValid_any _ _ _).mono ?_
    intro e w2 hp
    obtain ⟨rfl, rfl⟩ := hp.no h1
    have H1 := Lib.hid h1
    clear hp h1
    go_wp2_with fail
    go_ret
    exact ⟨HB1.out, .inr ⟨fun h => H1.out h.2.1, rfl⟩⟩
  by_cases h2 : 0 ≤ t0 ∧ t0 ≤ 10000
  rotate_left
  · go_enter Tryz.func95, Tryz.ntmps95
    go_wp2_with fail
    refine HNV.out.mono ?_
    intro e w1 hp
    obtain ⟨rfl, hb1⟩ := hp.yes HN.out
    have HB1 := Lib.hid hb1
    clear hp hb1
    go_wp2_with fail
    refine (townValid_any _ _ _).mono ?_
    intro e w2 hp
    obtain ⟨rfl, rfl⟩ := hp.yes h1
    clear hp
    go_wp2_with fail
    refine (timeValid_any _ _).mono ?_
    intro e w2 hp
    obtain ⟨rfl, rfl⟩ := hp.no h2
    have H2 := Lib.hid h2
    clear hp h2
    go_wp2_with fail
    go_ret
    exact ⟨HB1.out, .inr ⟨fun h => H2.out h.2.2.1, rfl⟩⟩
  by_cases h3 : 0 ≤ ch ∧ ch ≤ 300
  rotate_left
  · go_enter Tryz.func95, Tryz.ntmps95
    go_wp2_with fail
    refine HNV.out.mono ?_
    intro e w1 hp
    obtain ⟨rfl, hb1⟩ := hp.yes HN.out
    have HB1 := Lib.hid hb1
    clear hp hb1
    go_wp2_with fail
    refine (townValid_any _ _ _).mono ?_
    intro e w2 hp
    obtain ⟨rfl, rfl⟩ := hp.yes h1
    clear hp
    go_wp2_with fail
    refine (timeValid_any _ _).mono ?_
    intro e w2 hp
    obtain ⟨rfl, rfl⟩ := hp.yes h2
    clear hp
    go_wp2_with fail
    refine (delayValid_any _ _).mono ?_
    intro e w2 hp
    obtain ⟨rfl, rfl⟩ := hp.no h3
    have H3 := Lib.hid h3
    clear hp h3
    go_wp2_with fail
    go_ret
    exact ⟨HB1.out, .inr ⟨fun h => H3.out h.2.2.2, rfl⟩⟩
  have HQ := Lib.hid (show PostQ n net s0 t0 ch from ⟨HN.out, h1, h2, h3⟩)
  have hn8 := HN.out.2.1
  obtain ⟨n, rfl⟩ : ∃ k : Nat, n = k := ⟨n.toNat, by omega⟩
  obtain ⟨s0, rfl⟩ : ∃ k : Nat, s0 = k := ⟨s0.toNat, by omega⟩
  have hs0n : s0 < n := by omega
  go_enter Tryz.func95, Tryz.ntmps95
  go_wp2_with fail
  refine HNV.out.mono ?_
  intro e w1 hp
  obtain ⟨rfl, hb1⟩ := hp.yes HN.out
  have HB1 := Lib.hid hb1
  clear hp hb1
  go_wp2_with fail
  refine (townValid_any _ _ _).mono ?_
  intro e w2 hp
  obtain ⟨rfl, rfl⟩ := hp.yes h1
  clear hp
  go_wp2_with fail
  refine (timeValid_any _ _).mono ?_
  intro e w2 hp
  obtain ⟨rfl, rfl⟩ := hp.yes h2
  clear hp
  go_wp2_with fail
  refine (delayValid_any _ _).mono ?_
  intro e w2 hp
  obtain ⟨rfl, rfl⟩ := hp.yes h3
  clear hp
  have HS1 := Lib.hid (slE_new (k := 1) (enc := encI) w1 3 encI_len [-1] #[.int .i64 (-1)] rfl (by simp [maxLen]) (n := 1) rfl (g := w1.heap.size) rfl)
  have HB2 := Lib.hid (below_alloc HB1.out (.cells #[.int .i64 (-1)] 3))
  have hz2 : (w1.alloc (.cells #[.int .i64 (-1)] 3)).heap.size = w1.heap.size + 1 := by simp
  have HZ2 := Lib.hid hz2
  clear hz2
  go_wp2_with fail
  refine (repeat_any _ 1 n _ HS1.out (by omega) (by omega)).mono ?_
  rintro e w3 ⟨rfl, hg3, hb3⟩
  have HB3 := Lib.hid (below_trans HB2.out hb3)
  rw [HZ2.out] at hg3 ⊢
  have hsz1 := HB1.out.size
  have HPN := Lib.hid ((pt_new (N := .slice A m cap) (s0 := s0) (ch := ch) hg3 164).put s0 hs0n t0)
  have HPM := Lib.hid (pt_new (N := .slice A m cap) (s0 := s0) (ch := ch) hg3 164)
  have hgf := HPM.out.frz s0
  have hgc := HPM.out.at_ s0 hs0n
  have hgp := HPM.out.tms
  have HTW := Lib.hid (show w.heap.size ≤ w1.heap.size + 1 ∧ w.heap.size ≤ w3.heap.size from ⟨by omega, HB3.out.size⟩)
  have HBL := Lib.hid ((below_alloc HB3.out (.cells #[.slice A m cap, .int .i64 s0, .int .i64 ch, .slice (some ⟨w1.heap.size + 1, 0, none⟩) n n] 164)).setCell (p := ⟨w1.heap.size + 1, s0, none⟩) (by show w.heap.size ≤ w1.heap.size + 1; omega) (.int .i64 t0))
  clear hg3 hb3
  go_wp2_with fail
  go_ret
  exact ⟨HBL.out, .inl ⟨HQ.out, _, _, rfl, HPN.out, HTW.out.2, HTW.out.1⟩⟩

/-- A table has been returned, or none. -/
def TableRet (n : Int) (net : List (List T3)) (s0 t0 ch : Int) (w : World) (e : Ending) (w' : World) : Prop :=
  Below w.heap.size w w' ∧ ((PostQ n net s0 t0 ch ∧ ∃ T, e = .returned (.tuple #[.slice (some ⟨T, 0, none⟩) n.toNat n.toNat, .bool true]) ∧ ∀ k : Nat, k < n.toNat → w'.cell? ⟨T, k, none⟩ = some (.int .i64 (tblV net s0 t0 ch k))) ∨ (¬ PostQ n net s0 t0 ch ∧ ∃ v, e = .returned (.tuple #[v, .bool false])))
set_option maxRecDepth 20000 in
set_option maxHeartbeats 1600000 in
theorem implPostTable_any (A : Option Addr) (n : Int) (m cap : Nat) (net : List (List T3)) (s0 t0 ch : Int) (w : World) (h : NetS w A m net) (hm : m ≤ 16777216) (hl : NetLen net) :
    Calls Tryz.prog 59 #[.int .i64 n, .slice A m cap, .int .i64 s0, .int .i64 t0, .int .i64 ch] w (TableRet n net s0 t0 ch w) := by
  have HNP := Lib.hid (newPostTable_any A n m cap net s0 t0 ch w h hm hl)
  have H := Lib.hid h
  clear h hm hl
  go_enter Tryz.func59, Tryz.ntmps59
  go_wp2_with fail
  refine HNP.out.mono ?_
  rintro e w1 ⟨hb1, ⟨hq, P, T, rfl, hpt, hP, hT⟩ | ⟨hq, rfl⟩⟩
  · have hn1 := hq.1.1
    have hs0 := hq.2.1
    obtain ⟨n, rfl⟩ : ∃ k : Nat, n = k := ⟨n.toNat, by omega⟩
    obtain ⟨s0, rfl⟩ : ∃ k : Nat, s0 = k := ⟨s0.toNat, by omega⟩
    rw [Int.toNat_natCast] at hpt
    have HQ := Lib.hid hq
    have E : PEnv w P T A m cap net s0 t0 ch n n := ⟨hq.ok, H.out, hT, Nat.le_refl _⟩
    have HSG := Lib.hid (spread_go E (muP n (tstart s0 t0)) w1 (tstart s0 t0) s0 hb1 hpt (snd_start_p hq.ok) (Nat.le_refl _) (by omega))
    have HB1 := Lib.hid hb1
    have HT := Lib.hid hT
    clear hb1 hq hpt hP hT hs0 HNP E H
    go_wp2_with fail
    refine HSG.out.mono ?_
    rintro e w2 ⟨rfl, f', hpt, hg2, hsp⟩
    have HT2 := Lib.hid (spr_table HQ.out.ok hsp)
    have HPT := Lib.hid hpt
    have HB2 := Lib.hid (below_T HB1.out hg2 HT.out)
    have hgp := hpt.tms
    clear hpt hg2 hsp HSG
    go_wp2_with fail
    go_ret2
    exact ⟨HB2.out, .inl ⟨HQ.out, T, rfl, fun k hk => by rw [HPT.out.at_ k hk, tblV_eq HQ.out.ok HT2.out]⟩⟩
  · have HB1 := Lib.hid hb1
    have HQ := Lib.hid hq
    clear hb1 hq HNP
    go_wp2_with fail
    go_ret2
    exact ⟨below_alloc HB1.out _, .inr ⟨HQ.out, _, rfl⟩⟩
set_option maxRecDepth 20000 in
set_option maxHeartbeats 1600000 in
theorem implPostArrive_any (A : Option Addr) (n : Int) (m cap : Nat) (net : List (List T3)) (s0 tw t0 ch : Int) (w : World) (h : NetS w A m net) (hm : m ≤ 16777216) (hl : NetLen net) :
    Calls Tryz.prog 28 #[.int .i64 n, .slice A m cap, .int .i64 s0, .int .i64 tw, .int .i64 t0, .int .i64 ch] w (Only (.int .i64 (postV n net s0 tw t0 ch)) w) := by
  have HPT := Lib.hid (implPostTable_any A n m cap net s0 t0 ch w h hm hl)
  have HV1 := Lib.hid (fun (hq : PostQ n net s0 t0 ch) (ht : 0 ≤ tw ∧ tw < n) => postV_yes hq ht)
  have HV2 := Lib.hid (fun (h : ¬ (PostQ n net s0 t0 ch ∧ 0 ≤ tw ∧ tw < n)) => postV_no h)
  clear h hm hl
  generalize postV n net s0 tw t0 ch = v at *
  go_enter Tryz.func28, Tryz.ntmps28
  go_wp2_with fail
  refine HPT.out.mono ?_
  rintro e w1 ⟨hb1, ⟨hq, T, rfl, hc⟩ | ⟨hq, v1, rfl⟩⟩
  · have HB1 := Lib.hid hb1
    by_cases ht : 0 ≤ tw ∧ tw < n
    · have HE := Lib.hid (HV1.out hq ht)
      obtain ⟨tw, rfl⟩ : ∃ k : Nat, tw = k := ⟨tw.toNat, by omega⟩
      have hcc := hc tw (by omega)
      have hn0 : (tw : Int) < (n.toNat : Int) := by omega
      clear hb1 hq hc HPT
      generalize tblV net s0 t0 ch tw = u at *
      go_wp2_with fail
      refine (townValid_any _ _ _).mono ?_
      intro e w2 hp
      obtain ⟨rfl, rfl⟩ := hp.yes ht
      clear hp
      go_wp2_with fail
      go_ret
      exact ⟨ret_int HE.out.symm, HB1.out⟩
    · have HE := Lib.hid (HV2.out (fun h => ht h.2))
      clear hb1 hq hc HPT
      go_wp2_with fail
      refine (townValid_any _ _ _).mono ?_
      intro e w2 hp
      obtain ⟨rfl, rfl⟩ := hp.no ht
      clear hp
      go_wp2_with fail
      go_ret
      exact ⟨ret_int HE.out.symm, HB1.out⟩
  · have HE := Lib.hid (HV2.out (fun h => hq h.1))
    have HB1 := Lib.hid hb1
    clear hb1 hq HPT
    go_wp2_with fail
    go_ret
    exact ⟨ret_int HE.out.symm, HB1.out⟩
end Go.Proofs.YtgjllminidlolaaGreatDoor
/- Contracts: PostTable and PostArrive of the reference. -/
set_option linter.unusedVariables false
namespace Go.Proofs.YtgjllminidlolaaGreatDoor
open Go.RowKit

set_option maxRecDepth 20000 in
set_option maxHeartbeats 1600000 in
theorem l7Ok_any (A : Option Addr) (n : Int) (m cap : Nat) (net : List (List T3)) (s0 t0 ch : Int) (w : World) (h : NetS w A m net) (hm : m ≤ 16777216) (hl : NetLen net) (h1 : -1000000 ≤ n) (h2 : n ≤ 1000000) :
    Calls Tryz.prog 97 #[.int .i64 n, .slice A m cap, .int .i64 s0, .int .i64 t0, .int .i64 ch] w (OnlyB (PostQ n net s0 t0 ch) w) := by
  have HNV := Lib.hid (specNetValid_any A n m cap net w h hm hl h1 h2)
  have e1 : IntKind.i64.wrap (n - 1) = n - 1 := IntWalk.i64_in _ (by omega)
  clear h hm hl
  by_cases hN : NetOk n net
  rotate_left
  · have HN := Lib.hid hN
    clear hN
    go_enter Tryz.func97, Tryz.ntmps97
    go_wp2_with fail
    refine HNV.out.mono ?_
    intro e w1 hp
    obtain ⟨rfl, hb1⟩ := hp.no HN.out
    have HB1 := Lib.hid hb1
    clear hp hb1
    go_wp2_with fail
    go_ret
    exact onlyB_false (fun h => HN.out h.1) HB1.out
  have HN := Lib.hid hN
  clear hN
  by_cases k1 : 0 ≤ s0 ∧ s0 ≤ n - 1
  rotate_left
  · have HQ := Lib.hid (show ¬ PostQ n net s0 t0 ch from fun h => k1 (by have := h.2.1; omega))
    go_enter Tryz.func97, Tryz.ntmps97
    go_wp2_with fail
    refine HNV.out.mono ?_
    intro e w1 hp
    obtain ⟨rfl, hb1⟩ := hp.yes HN.out
    have HB1 := Lib.hid hb1
    clear hp hb1
    go_wp2_with fail
    refine (l6In_any _ _ _ _).mono ?_
    intro e w2 hp
    obtain ⟨rfl, rfl⟩ := hp.no k1
    clear hp
    go_wp2_with fail
    go_ret
    exact onlyB_false HQ.out HB1.out
  by_cases k2 : 0 ≤ t0 ∧ t0 ≤ 10000
  rotate_left
  · have HQ := Lib.hid (show ¬ PostQ n net s0 t0 ch from fun h => k2 h.2.2.1)
    go_enter Tryz.func97, Tryz.ntmps97
    go_wp2_with fail
    refine HNV.out.mono ?_
    intro e w1 hp
    obtain ⟨rfl, hb1⟩ := hp.yes HN.out
    have HB1 := Lib.hid hb1
    clear hp hb1
    go_wp2_with fail
    refine (l6In_any _ _ _ _).mono ?_
    intro e w2 hp
    obtain ⟨rfl, rfl⟩ := hp.yes k1
    clear hp
    go_wp2_with fail
    refine (l6In_any _ _ _ _).mono ?_
    intro e w2 hp
    obtain ⟨rfl, rfl⟩ := hp.no k2
    clear hp
    go_wp2_with fail
    go_ret
    exact onlyB_false HQ.out HB1.out
  have HQ := Lib.hid (fun (h : 0 ≤ ch ∧ ch ≤ 300) => (show PostQ n net s0 t0 ch from ⟨HN.out, by omega, k2, h⟩))
  go_enter Tryz.func97, Tryz.ntmps97
  go_wp2_with fail
  refine HNV.out.mono ?_
  intro e w1 hp
  obtain ⟨rfl, hb1⟩ := hp.yes HN.out
  have HB1 := Lib.hid hb1
  clear hp hb1
  go_wp2_with fail
  refine (l6In_any _ _ _ _).mono ?_
  intro e w2 hp
  obtain ⟨rfl, rfl⟩ := hp.yes k1
  clear hp
  go_wp2_with fail
  refine (l6In_any _ _ _ _).mono ?_
  intro e w2 hp
  obtain ⟨rfl, rfl⟩ := hp.yes k2
  clear hp
  go_wp2_with fail
  refine (l6In_any _ _ _ _).mono ?_
  intro e w2 hp
  by_cases k3 : 0 ≤ ch ∧ ch ≤ 300
  · obtain ⟨rfl, rfl⟩ := hp.yes k3
    have H3 := Lib.hid k3
    clear hp k3
    go_wp2_with fail
    go_ret
    exact onlyB_true (HQ.out H3.out) HB1.out
  · obtain ⟨rfl, rfl⟩ := hp.no k3
    have H3 := Lib.hid k3
    clear hp k3
    go_wp2_with fail
    go_ret
    exact onlyB_false (fun h => H3.out h.2.2.2) HB1.out

/-- A table has been returned, or none: the reference. -/
def TableRetS (n : Int) (net : List (List T3)) (s0 t0 ch : Int) (w : World) (e : Ending) (w' : World) : Prop :=
  Below w.heap.size w w' ∧ ((PostQ n net s0 t0 ch ∧ ∃ T c, e = .returned (.tuple #[.slice (some ⟨T, 0, none⟩) n.toNat c, .bool true]) ∧ ∀ k : Nat, k < n.toNat → w'.cell? ⟨T, k, none⟩ = some (.int .i64 (tblV net s0 t0 ch k))) ∨ (¬ PostQ n net s0 t0 ch ∧ ∃ v, e = .returned (.tuple #[v, .bool false])))
set_option maxRecDepth 20000 in
set_option maxHeartbeats 1600000 in
theorem specPostTable_any (A : Option Addr) (n : Int) (m cap : Nat) (net : List (List T3)) (s0 t0 ch : Int) (w : World) (h : NetS w A m net) (hm : m ≤ 16777216) (hl : NetLen net) (h1 : -1000000 ≤ n) (h2 : n ≤ 1000000) :
    Calls Tryz.prog 61 #[.int .i64 n, .slice A m cap, .int .i64 s0, .int .i64 t0, .int .i64 ch] w (TableRetS n net s0 t0 ch w) := by
  have HOK := Lib.hid (l7Ok_any A n m cap net s0 t0 ch w h hm hl h1 h2)
  have H := Lib.hid h
  clear h hm hl
  by_cases hq : PostQ n net s0 t0 ch
  · have HQ := Lib.hid hq
    have hn1 := hq.1.1
    have hs0 := hq.2.1
    obtain ⟨n, rfl⟩ : ∃ k : Nat, n = k := ⟨n.toNat, by omega⟩
    obtain ⟨s0, rfl⟩ : ∃ k : Nat, s0 = k := ⟨s0.toNat, by omega⟩
    have HTB := Lib.hid (rounds_table HQ.out.ok (n + 1) (Nat.le_succ n))
    have HLT := Lib.hid (fun W hW => l7Table_any A n m cap net s0 t0 ch W (H.out.below hW) HQ.out.ok)
    clear hq hs0 H
    go_enter Tryz.func61, Tryz.ntmps61
    go_wp2_with fail
    refine HOK.out.mono ?_
    intro e w1 hp
    obtain ⟨rfl, hb1⟩ := hp.yes HQ.out
    have HB1 := Lib.hid hb1
    clear hp hb1
    go_wp2_with fail
    refine (HLT.out _ HB1.out).mono ?_
    rintro e w2 ⟨hb2, T, c, rfl, htb, hT⟩
    have HB2 := Lib.hid (below_trans HB1.out hb2)
    have TB := Lib.hid htb
    clear hb2 htb hT HLT HOK
    go_wp2_with fail
    go_ret2
    exact ⟨HB2.out, .inl ⟨HQ.out, T, c, rfl, fun k hk => by rw [TB.out.at_ k hk, tblV_eq HQ.out.ok HTB.out]⟩⟩
  · have HQ := Lib.hid hq
    clear hq
    go_enter Tryz.func61, Tryz.ntmps61
    go_wp2_with fail
    refine HOK.out.mono ?_
    intro e w1 hp
    obtain ⟨rfl, hb1⟩ := hp.no HQ.out
    have HB1 := Lib.hid hb1
    clear hp hb1
    go_wp2_with fail
    go_ret2
    exact ⟨below_alloc HB1.out _, .inr ⟨HQ.out, _, rfl⟩⟩
set_option maxRecDepth 20000 in
set_option maxHeartbeats 1600000 in
theorem specPostArrive_any (A : Option Addr) (n : Int) (m cap : Nat) (net : List (List T3)) (s0 tw t0 ch : Int) (w : World) (h : NetS w A m net) (hm : m ≤ 16777216) (hl : NetLen net) (h1 : -1000000 ≤ n) (h2 : n ≤ 1000000) :
    Calls Tryz.prog 29 #[.int .i64 n, .slice A m cap, .int .i64 s0, .int .i64 tw, .int .i64 t0, .int .i64 ch] w (Only (.int .i64 (postV n net s0 tw t0 ch)) w) := by
  have HPT := Lib.hid (specPostTable_any A n m cap net s0 t0 ch w h hm hl h1 h2)
  have HV1 := Lib.hid (fun (hq : PostQ n net s0 t0 ch) (ht : 0 ≤ tw ∧ tw < n) => postV_yes hq ht)
  have HV2 := Lib.hid (fun (h : ¬ (PostQ n net s0 t0 ch ∧ 0 ≤ tw ∧ tw < n)) => postV_no h)
  have e1 : IntKind.i64.wrap (n - 1) = n - 1 := IntWalk.i64_in _ (by omega)
  clear h hm hl
  generalize postV n net s0 tw t0 ch = v at *
  go_enter Tryz.func29, Tryz.ntmps29
  go_wp2_with fail
  refine HPT.out.mono ?_
  rintro e w1 ⟨hb1, ⟨hq, T, c, rfl, hc⟩ | ⟨hq, v1, rfl⟩⟩
  · have HB1 := Lib.hid hb1
    by_cases ht : 0 ≤ tw ∧ tw ≤ n - 1
    · have HE := Lib.hid (HV1.out hq (by omega))
      obtain ⟨tw, rfl⟩ : ∃ k : Nat, tw = k := ⟨tw.toNat, by omega⟩
      have hcc := hc tw (by omega)
      have hn0 : (tw : Int) < (n.toNat : Int) := by omega
      clear hb1 hq hc HPT
      generalize tblV net s0 t0 ch tw = u at *
      go_wp2_with fail
      refine (l6In_any _ _ _ _).mono ?_
      intro e w2 hp
      obtain ⟨rfl, rfl⟩ := hp.yes ht
      clear hp
      go_wp2_with fail
      go_ret
      exact ⟨ret_int HE.out.symm, HB1.out⟩
    · have HE := Lib.hid (HV2.out (fun h => ht (by omega)))
      clear hb1 hq hc HPT
      go_wp2_with fail
      refine (l6In_any _ _ _ _).mono ?_
      intro e w2 hp
      obtain ⟨rfl, rfl⟩ := hp.no ht
      clear hp
      go_wp2_with fail
      go_ret
      exact ⟨ret_int HE.out.symm, HB1.out⟩
  · have HE := Lib.hid (HV2.out (fun h => hq h.1))
    have HB1 := Lib.hid hb1
    clear hb1 hq HPT
    go_wp2_with fail
    go_ret
    exact ⟨ret_int HE.out.symm, HB1.out⟩
end Go.Proofs.YtgjllminidlolaaGreatDoor
/- Contracts: the commands of a script on coaches and on letters. -/
set_option linter.unusedVariables false
namespace Go.Proofs.YtgjllminidlolaaGreatDoor
open Go.RowKit

theorem tripL_len : ∀ ns : List Int, (tripL ns).length = ns.length / 3
  | a :: b :: c :: r => by
    rw [tripL, List.length_cons, tripL_len r]
    simp only [List.length_cons]
    omega
  | [] => by simp [tripL]
  | [_] => by simp [tripL]
  | [_, _] => by simp [tripL]
theorem tripL_at : ∀ (j : Nat) (ns : List Int) (x y z : Int), ns[3 * j]? = some x → ns[3 * j + 1]? = some y → ns[3 * j + 2]? = some z → (tripL ns)[j]? = some ⟨x, y, z⟩
  | j, [], _, _, _, h, _, _ => by cases h
  | j, [_], _, _, _, _, h, _ => by
    rw [List.getElem?_cons_succ] at h
    cases h
  | j, [_, _], _, _, _, _, _, h => by
    rw [List.getElem?_cons_succ, List.getElem?_cons_succ] at h
    cases h
  | 0, a :: b :: c :: r, x, y, z, h1, h2, h3 => by
    injection h1 with h1
    injection h2 with h2
    injection h3 with h3
    subst h1 h2 h3
    rfl
  | j + 1, a :: b :: c :: r, x, y, z, h1, h2, h3 => by
    rw [show 3 * (j + 1) = 3 * j + 1 + 1 + 1 by omega] at h1
    rw [show 3 * (j + 1) + 1 = 3 * j + 1 + 1 + 1 + 1 by omega] at h2
    rw [show 3 * (j + 1) + 2 = 3 * j + 2 + 1 + 1 + 1 by omega] at h3
    simp only [List.getElem?_cons_succ] at h1 h2 h3
    rw [tripL, List.getElem?_cons_succ]
    exact tripL_at j r x y z h1 h2 h3
/-- Three numbers of a row. -/
theorem trip_at {w : World} {A : Option Addr} {n : Nat} {ns : List Int} (h : SlE 1 encI w A n ns) {q j : Nat} (hq : q = 3 * j) (hj : q + 2 < n) :
    ∃ b off x y z, A = some ⟨b, off, none⟩ ∧ (tripL ns)[j]? = some ⟨x, y, z⟩ ∧ w.cell? ⟨b, off + q, none⟩ = some (.int .i64 x) ∧ w.cell? ⟨b, off + (q + 1), none⟩ = some (.int .i64 y) ∧ w.cell? ⟨b, off + (q + 2), none⟩ = some (.int .i64 z) := by
  subst hq
  obtain ⟨b, off, x, rfl, hbl, hx, -, g0⟩ := at1 h (Below.refl _ _) (show 3 * j < n by omega)
  obtain ⟨b1, off1, y, hA, -, hy, -, g1⟩ := at1 h (Below.refl _ _) (show 3 * j + 1 < n by omega)
  obtain ⟨b2, off2, z, hA2, -, hz, -, g2⟩ := at1 h (Below.refl _ _) hj
  simp only [Option.some.injEq, Addr.mk.injEq, and_true] at hA hA2
  obtain ⟨rfl, rfl⟩ := hA
  obtain ⟨rfl, rfl⟩ := hA2
  exact ⟨b, off, x, y, z, rfl, tripL_at j ns x y z hx hy hz, g0, g1, g2⟩
/-- The coaches of a state in memory. -/
theorem St.netAt {w0 W : World} {R : Nat} {s : LSt} {av : Nat → Prop} (h : St w0 R s av W) :
    ∃ A c, W.cell? ⟨R, 1, none⟩ = some (.slice A s.net.length c) ∧ W.frozen? ⟨R, 1, none⟩ = false ∧ NetS W A s.net.length s.net ∧ s.net.length ≤ c ∧ R < W.heap.size := by
  obtain ⟨h1, h2, h3, h4, vr, vc, vb, ⟨o1, o2, o3, o4⟩, ⟨hv, _⟩, ⟨vs, n1, n2, n3, n4⟩, hb1, hb2⟩ := h
  obtain ⟨A, c, rfl, hs, hc⟩ := n1.slc encV_len n3
  refine ⟨A, c, o2, o4 1, ⟨vs, hs, n3, fun j u xs hu hx => ?_⟩, hc, h2⟩
  obtain ⟨A', c', hv, hsl, hc'⟩ := (n4 j u xs hu hx).1.slc enc3_len rfl
  exact ⟨A', _, c', hv, hsl, hc'⟩
theorem NetB.own {base base0 : Nat} {W : World} {v : Value} {net : List (List T3)} {bad : Nat → Prop} (h : NetB base W v net) (hb : ∀ j, base ≤ j → ¬ bad j) (hle : base0 ≤ base) : NetOwn bad base0 W v net := by
  obtain ⟨ss, h1, h2, h3⟩ := h
  refine ⟨ss.map Slv.v, (own_WV h1).base_le hle, fun j hj => hb j (h1.lt j hj).1, by rw [List.length_map, h2], fun j u xs hu hx => ?_⟩
  rw [List.getElem?_map] at hu
  obtain ⟨s, hs, rfl⟩ := Option.map_eq_some_iff.1 hu
  exact ⟨(h3 j s xs hs hx).1.base_le hle, fun i hi => hb i ((h3 j s xs hs hx).1.lt i hi).1⟩
/-- The coaches are put. -/
theorem St.putC {w0 W : World} {R : Nat} {s : LSt} {av : Nat → Prop} {v : Value} {net : List (List T3)} (h : St w0 R s av W) (hv : NetOwn (fun j => j = R ∨ av j) w0.heap.size W v net) :
    St w0 R { s with net := net } av (W.setCell ⟨R, 1, none⟩ v) := by
  obtain ⟨h1, h2, h3, h4, vr, vc, vb, ⟨o1, o2, o3, o4⟩, ⟨hv1, hv2⟩, hn, hb1, hb2⟩ := h
  have hg := grown_setCell W ⟨R, 1, none⟩ v
  exact ⟨h1, Nat.lt_of_lt_of_le h2 hg.size, h3.grown hg h3.size (fun k hk => by injection hk with hk; subst hk; exact h1), h4, vr, v, vb,
    ⟨by rw [World.cell?_setCell_other _ _ _ _ (by simp)]; exact o1, World.cell?_setCell_same _ _ _ o2, by rw [World.cell?_setCell_other _ _ _ _ (by simp)]; exact o3, fun j => by rw [World.frozen?_setCell]; exact o4 j⟩,
    ⟨hv1.apart hg (noBad_ne hv2 (.inl rfl)), hv2⟩, hv.kept hg (fun g hgr => by injection hgr with hgr; exact .inl hgr.symm), hb1.apart hg (noBad_ne hb2 (.inl rfl)), hb2⟩

set_option maxRecDepth 20000 in
set_option maxHeartbeats 3200000 in
theorem coach_any (w0 : World) (R : Nat) (s : LSt) (av : Nat → Prop) (A : Option Addr) (n c : Nat) (ns : List Int) (s' : LSt) (b : Bool) (W : World) (hs : St w0 R s av W) (ha : ∀ j, W.heap.size ≤ j → ¬ av j)
    (hN : SlE 1 encI W A n ns) (hn3 : n % 3 = 0) (hn : n ≤ 1000) (hl : s.net.length ≤ 1000) (hll : NetLen s.net)
    (hb : (b = true ∧ NetOk 6 (s.net ++ [tripL ns]) ∧ s' = { s with net := s.net ++ [tripL ns] }) ∨ (b = false ∧ ¬ NetOk 6 (s.net ++ [tripL ns]) ∧ s' = s)) :
    Calls Tryz.prog 140 #[.pointer (some ⟨R, 0, none⟩), .slice A n c] W (Ran w0 R s' [bs okL] b av W) := by
  obtain ⟨ys, hy⟩ : ∃ ys, (b = true ∧ NetOk 6 (s.net ++ [tripL ns]) ∧ ys = s.net ++ [tripL ns]) ∨ (b = false ∧ ¬ NetOk 6 (s.net ++ [tripL ns]) ∧ ys = []) := by
    rcases hb with ⟨h1, h2, h3⟩ | ⟨h1, h2, h3⟩
    · exact ⟨_, .inl ⟨h1, h2, rfl⟩⟩
    · exact ⟨_, .inr ⟨h1, h2, rfl⟩⟩
  have HY := Lib.hid hy
  clear hy
  have HS := Lib.hid hs
  have HA := Lib.hid ha
  have HB := Lib.hid hb
  have HLL := Lib.hid hll
  have HN := Lib.hid hN
  have HN3 := Lib.hid hn3
  have HTL := Lib.hid (show (tripL ns).length = n / 3 by rw [tripL_len, hN.len])
  clear hN hs ha hb hll hn3
  generalize hlen : s.net.length = m at *
  have HLN := Lib.hid hlen
  clear hlen
  go_enter Tryz.func140, Tryz.ntmps140
  go_wp2_with fail
  go_loopw [6, 7] (fun v i wr => ∃ j q : Nat, q = 3 * j ∧ q ≤ n ∧ i = .int .i64 q ∧ OwnE 3 enc3 103 W.heap.size wr v ((tripL ns).take j) ∧ Below W.heap.size W wr) (fun _ i _ => n - (intOf i).toNat)
  case atStart => exact ⟨0, 0, rfl, by omega, rfl, own_new W _ _ (Nat.le_refl _) enc3_len [] #[] rfl (by simp) rfl, below_alloc (Below.refl _ _) _⟩
  case round =>
    obtain ⟨j, q, hq, hqn, rfl, hown, hbr⟩ := hrel
    have HQ := Lib.hid hq
    have HR := Lib.hid hbr
    have HO := Lib.hid hown
    have hsz := hbr.size
    by_cases hqm : q + 2 < n
    · obtain ⟨bb, off, x, y, z, rfl, hp, hg⟩ := trip_at HN.out hq hqm
      have GW := Lib.hid hg
      have HP := Lib.hid hp
      have HW0 := Lib.hid (show wr.drew.cell? ⟨bb, off + q, none⟩ = some (.int .i64 x) ∧ wr.drew.cell? ⟨bb, off + (q + 1), none⟩ = some (.int .i64 y) ∧ wr.drew.cell? ⟨bb, off + (q + 2), none⟩ = some (.int .i64 z) from cells3_below (below_drew hbr) hg)
      have SN := Lib.hid (slE_new (enc := enc3) (k := 3) wr.drew 103 enc3_len [⟨x, y, z⟩] #[.int .i64 x, .int .i64 y, .int .i64 z] rfl (by unfold maxLen; simp) (n := 1) rfl (g := wr.heap.size) rfl)
      have OA := Lib.hid ((OwnE.drew hown).alloc (.cells #[.int .i64 x, .int .i64 y, .int .i64 z] 103))
      have BA := Lib.hid (below_alloc (below_drew hbr) (.cells #[.int .i64 x, .int .i64 y, .int .i64 z] 103))
      have HW1 := Lib.hid (cells3_below BA.out GW.out)
      have hlj : ((tripL ns).take j).length = j := by rw [List.length_take, HTL.out]; omega
      have N1 := Lib.hid (show (((tripL ns).take j).length + 1) * 24 ≤ 140737488355328 ∧ ((tripL ns).take j).length + 1 ≤ maxLen by rw [hlj]; unfold maxLen; omega)
      have XA := Lib.hid BA.out.size
      clear hq hown hbr hp hlj hg
      have hq0 : (0 : Int) ≤ (q : Int) ∧ (0 : Int) ≤ (q : Int) + 1 ∧ (0 : Int) ≤ (q : Int) + 2 := ⟨by omega, by omega, by omega⟩
      have hq1 : (q : Int) < (n : Int) ∧ (q : Int) + 1 < (n : Int) ∧ (q : Int) + 2 < (n : Int) := ⟨by omega, by omega, by omega⟩
      obtain ⟨hq2, hq3, hq4⟩ := hq0
      obtain ⟨hq5, hq6, hq7⟩ := hq1
      have hq8 : q < n ∧ q + 1 < n := ⟨by omega, by omega⟩
      obtain ⟨hq8, hq9⟩ := hq8
      have ht2 : ((q : Int) + 2).toNat = q + 2 := by omega
      have hwz1 : IntKind.i64.wrap ((q : Int) + 1) = (q : Int) + 1 := IntWalk.i64_in _ (by omega)
      have hwz2 : IntKind.i64.wrap ((q : Int) + 2) = (q : Int) + 2 := IntWalk.i64_in _ (by omega)
      go_wp2_with fail
      go_region_held3 (fun w' => w'.cell? ⟨bb, off + q, none⟩ = some (.int .i64 x) ∧ w'.cell? ⟨bb, off + (q + 1), none⟩ = some (.int .i64 y) ∧ w'.cell? ⟨bb, off + (q + 2), none⟩ = some (.int .i64 z))
        (first | exact HW0.out | exact HW1.out | exact CZ2.out | fail)
        (first
          | (go_loud (refine step_cat (bytes := 24) (base := W.heap.size) enc3_len enc3_one (Nat.succ_pos 2) rfl (.tmp 18) (.tmp 34) _ rfl Tryz.underlying50 info_stop rfl _ _ rfl OA.out rfl SN.out N1.out.1 N1.out.2 XA.out ?_; intro v2 w2 hown2 hg2; have B2 := Lib.hid (below_grown BA.out hg2 OA.out (Nat.le_refl _)); have O2 := Lib.hid hown2; have CZ2 := Lib.hid (cells3_below B2.out GW.out); clear hown2 hg2))
          | fail)
      all_goals (go_wp2_with fail; exact ⟨⟨j + 1, q + 3, by have := HQ.out; omega, by have := HN3.out; have := HQ.out; omega, by push_cast; rfl, by rw [take_next HP.out]; exact O2.out, B2.out⟩, by simp only [intOf]; omega⟩)
    · obtain rfl : q = n := by have := HN3.out; omega
      obtain ⟨tl, htl⟩ : ∃ tl, (tripL ns).length = tl := ⟨_, rfl⟩
      have hown' : OwnE 3 enc3 103 W.heap.size wr u6 (tripL ns) := by
        rw [List.take_of_length_le (by rw [HTL.out]; have := HQ.out; omega)] at hown
        exact hown
      obtain ⟨Ax, cx, rfl, hslx, -⟩ := hown'.slc enc3_len htl
      have htl2 : tl ≤ 1000 := by rw [← htl, HTL.out]; omega
      have SS := Lib.hid (HS.out.below hbr)
      obtain ⟨Ab, cb, hc, hf, hnet, hcap, hR⟩ := SS.out.netAt
      rw [HLN.out] at hc hnet hcap
      have HPA := Lib.hid (implPostAdd_any Ab Ax 6 m cb tl cx s.net (tripL ns) b ys wr hnet (by omega) HLL.out hslx (by omega) HY.out)
      clear hq hown hbr hown' htl hslx hnet
      go_wp2_with fail
      refine HPA.out.mono ?_
      rintro e w2 ⟨v, rfl, hnb, hb2⟩
      have hR0 := HS.out.2.1
      have HNB := Lib.hid hnb
      have HB2 := Lib.hid (below_trans HR.out hb2)
      have SS2 := Lib.hid (SS.out.below hb2)
      have hszd := HB2.out.size
      obtain ⟨A9, c9, hc9, hf9, -, -, hR9⟩ := SS2.out.netAt
      obtain ⟨Ay, my, cy, rfl⟩ : ∃ A m c, v = .slice A m c := by
        obtain ⟨A, c, h, -⟩ := HNB.out.netS
        exact ⟨A, _, c, h⟩
      clear hnb hb2 hc hf
      rcases HB.out with ⟨rfl, hj, rfl⟩ | ⟨rfl, hj, rfl⟩
      · obtain rfl : ys = s.net ++ [tripL ns] := by
          rcases HY.out with ⟨_, _, h⟩ | ⟨h, _⟩
          · exact h
          · cases h
        have HJ := Lib.hid hj
        clear hj
        go_wp2_with fail
        refine (done_any true _).mono ?_
        rintro e w3 ⟨v3, rfl, hown3, hb3⟩
        have hw2 : (w2.setCell ⟨R, 1, none⟩ (.slice Ay my cy)).heap.size = w2.heap.size := by simp [World.setCell]
        have HE := Lib.hid (show OwnE 1 encS 9 W.heap.size w3 v3 [bs okL] ∧ W.grownBy w3 (some R) ∧ St w0 R { s with net := s.net ++ [tripL ns] } av w3 from
          ⟨hown3.base_le (by rw [hw2]; exact hszd), grown_trans (grown_trans (grown_of_below HB2.out _) (grown_setCell w2 ⟨R, 1, none⟩ _)) (grown_of_below hb3 _),
           (SS2.out.putC (HNB.out.own (fun j hj hj2 => by rcases hj2 with h | h; omega; exact HA.out j (Nat.le_trans HR.out.size hj) h) (Nat.le_trans HS.out.1 (Nat.le_trans (Nat.le_of_lt hR0) HR.out.size)))).below hb3⟩)
        clear hown3 hb3
        go_wp2_with fail
        go_ret2
        exact ⟨v3, rfl, HE.out⟩
      · have HJ := Lib.hid hj
        clear hj
        go_wp2_with fail
        refine (done_any false _).mono ?_
        rintro e w3 ⟨v3, rfl, hown3, hb3⟩
        have HE := Lib.hid (show OwnE 1 encS 9 W.heap.size w3 v3 [bs okL] ∧ W.grownBy w3 (some R) ∧ St w0 R s' av w3 from
          ⟨hown3.base_le hszd, grown_trans (grown_of_below HB2.out _) (grown_of_below hb3 _), SS2.out.below hb3⟩)
        clear hown3 hb3
        go_wp2_with fail
        go_ret2
        exact ⟨v3, rfl, HE.out⟩
/-- The four numbers of a line. -/
theorem num4 {W : World} {A : Option Addr} {x y z u : Int} (h : SlE 1 encI W A 4 [x, y, z, u]) : ∃ b off, A = some ⟨b, off, none⟩ ∧ W.cell? ⟨b, off, none⟩ = some (.int .i64 x) ∧ W.cell? ⟨b, off + 1, none⟩ = some (.int .i64 y) ∧ W.cell? ⟨b, off + 2, none⟩ = some (.int .i64 z) ∧ W.cell? ⟨b, off + 3, none⟩ = some (.int .i64 u) := by
  obtain ⟨bb, off, p, rfl, hbl, hp, -, g0⟩ := at1 h (Below.refl _ _) (show 0 < 4 by omega)
  obtain ⟨bb', off', p', hA, hbl', hp', -, g1⟩ := at1 h (Below.refl _ _) (show 1 < 4 by omega)
  obtain ⟨bb2, off2, p2, hA2, hbl2, hp2, -, g2⟩ := at1 h (Below.refl _ _) (show 2 < 4 by omega)
  obtain ⟨bb3, off3, p3, hA3, hbl3, hp3, -, g3⟩ := at1 h (Below.refl _ _) (show 3 < 4 by omega)
  simp only [Option.some.injEq, Addr.mk.injEq, and_true] at hA hA2 hA3
  obtain ⟨rfl, rfl⟩ := hA
  obtain ⟨rfl, rfl⟩ := hA2
  obtain ⟨rfl, rfl⟩ := hA3
  simp only [List.getElem?_cons_zero, List.getElem?_cons_succ, Option.some.injEq] at hp hp' hp2 hp3
  subst hp hp' hp2 hp3
  rw [Nat.add_zero] at g0
  exact ⟨bb, off, rfl, g0, g1, g2, g3⟩
theorem cells5_below {W W' : World} (hb : Below W.heap.size W W') {p q r t v : Addr} {a b c d e : Value} (h : W.cell? p = some a ∧ W.cell? q = some b ∧ W.cell? r = some c ∧ W.cell? t = some d ∧ W.cell? v = some e) :
    W'.cell? p = some a ∧ W'.cell? q = some b ∧ W'.cell? r = some c ∧ W'.cell? t = some d ∧ W'.cell? v = some e := ⟨cell_below hb h.1, cell_below hb h.2.1, cell_below hb h.2.2.1, cell_below hb h.2.2.2.1, cell_below hb h.2.2.2.2⟩
set_option maxRecDepth 20000 in
set_option maxHeartbeats 3200000 in
theorem post_any (w0 : World) (hE : Env w0) (R : Nat) (s : LSt) (av : Nat → Prop) (A : Option Addr) (c : Nat) (x y z u : Int) (W : World) (hs : St w0 R s av W)
    (hN : SlE 1 encI W A 4 [x, y, z, u]) (hl : s.net.length ≤ 1000) (hll : NetLen s.net) :
    Calls Tryz.prog 142 #[.pointer (some ⟨R, 0, none⟩), .slice A 4 c] W (Ran w0 R s [bs (Lib.itoa (postV 6 s.net x y z u))] (decide (0 ≤ postV 6 s.net x y z u)) av W) := by
  obtain ⟨Ab, cb, hc, hf, hsl, hcap, hR⟩ := hs.netAt
  obtain ⟨bb, off, rfl, g0, g1, g2, g3⟩ := num4 hN
  have hfb := postV_bd 6 s.net x y z u
  have HF := Lib.hid (fun W' hW' => implPostArrive_any Ab 6 s.net.length cb s.net x y z u W' (hsl.below hW') (by omega) hll)
  generalize postV 6 s.net x y z u = v at *
  have HT := Lib.hid (told_any v (by omega) (by omega) hE)
  have HS := Lib.hid hs
  have HCS := Lib.hid (show W.cell? ⟨R, 1, none⟩ = some (.slice Ab s.net.length cb) ∧ W.cell? ⟨bb, off, none⟩ = some (.int .i64 x) ∧ W.cell? ⟨bb, off + 1, none⟩ = some (.int .i64 y) ∧ W.cell? ⟨bb, off + 2, none⟩ = some (.int .i64 z) ∧ W.cell? ⟨bb, off + 3, none⟩ = some (.int .i64 u) from ⟨hc, g0, g1, g2, g3⟩)
  clear hN hs hsl hcap hfb hll
  generalize s.net.length = len at *
  generalize decide (0 ≤ v) = bv at *
  go_enter Tryz.func142, Tryz.ntmps142
  go_wp2_with fail
  go_region_held3 (fun w' => w'.cell? ⟨R, 1, none⟩ = some (.slice Ab len cb) ∧ w'.cell? ⟨bb, off, none⟩ = some (.int .i64 x) ∧ w'.cell? ⟨bb, off + 1, none⟩ = some (.int .i64 y) ∧ w'.cell? ⟨bb, off + 2, none⟩ = some (.int .i64 z) ∧ w'.cell? ⟨bb, off + 3, none⟩ = some (.int .i64 u))
    (first | exact HCS.out | exact CZ2.out | exact CZ3.out | fail)
    (first
      | (go_at_call 28; (with_reducible_and_instances refine (HF.out _ (below_drew (Below.refl W.heap.size W))).mono ?_); rintro e w2 ⟨rfl, hb2⟩; have HB2 := Lib.hid ((below_drew (Below.refl W.heap.size W)).trans hb2); have CZ2 := Lib.hid (cells5_below hb2 (show W.drew.cell? ⟨R, 1, none⟩ = some (.slice Ab len cb) ∧ W.drew.cell? ⟨bb, off, none⟩ = some (.int .i64 x) ∧ W.drew.cell? ⟨bb, off + 1, none⟩ = some (.int .i64 y) ∧ W.drew.cell? ⟨bb, off + 2, none⟩ = some (.int .i64 z) ∧ W.drew.cell? ⟨bb, off + 3, none⟩ = some (.int .i64 u) from HCS.out)); have SS2 := Lib.hid ((HS.out.below (below_drew (Below.refl W.heap.size W))).below hb2); have W2 := Lib.hid (show Below w0.heap.size w0 w2 from SS2.out.2.2.1); clear hb2)
      | (go_at_call 179; (with_reducible_and_instances refine (HT.out _ W2.out).mono ?_); rintro e w3 ⟨v3, rfl, hown3, hb3⟩; have HB3 := Lib.hid (below_trans HB2.out hb3); have CZ3 := Lib.hid (cells5_below hb3 CZ2.out); have SS3 := Lib.hid (SS2.out.below hb3); have HO3 := Lib.hid hown3; clear hown3 hb3)
      | fail)
  go_wp2_with fail
  go_ret2
  exact ⟨v3, rfl, HO3.out.base_le HB2.out.size, grown_of_below HB3.out _, SS3.out⟩
end Go.Proofs.YtgjllminidlolaaGreatDoor
