/- Contracts: the table of the reference: l7Ready, l7Table. -/
import Derived.Test.YtgjllminidlolaaGreatDoorMQPWalkE
import Derived.Test.YtgjllminidlolaaGreatDoorMAD
import Derived.BigQuiet
set_option linter.unusedVariables false
namespace Go.Proofs.YtgjllminidlolaaGreatDoor
open Go.RowKit

/-- A table of n times at block T. -/
structure TbAt (T n : Nat) (f : Int → Int) (W : World) : Prop where
  tl : T < W.heap.size
  at_ : ∀ k : Nat, k < n → W.cell? ⟨T, k, none⟩ = some (.int .i64 (f k))
  frz : ∀ j, W.frozen? ⟨T, j, none⟩ = false
section
variable {T n : Nat} {f : Int → Int} {W W' : World}
theorem TbAt.below (h : TbAt T n f W) (hb : Below W.heap.size W W') : TbAt T n f W' :=
  ⟨Nat.lt_of_lt_of_le h.tl hb.size, fun k hk => by rw [hb.cell h.tl]; exact h.at_ k hk, fun j => by rw [hb.frozen h.tl]; exact h.frz j⟩
theorem TbAt.put (h : TbAt T n f W) (k : Nat) (d : Int) (hk : k < n) : TbAt T n (updI f k d) (W.setCell ⟨T, k, none⟩ (.int .i64 d)) := by
  have hs : (W.setCell ⟨T, k, none⟩ (.int .i64 d)).heap.size = W.heap.size := by simp [World.setCell]
  refine ⟨by rw [hs]; exact h.tl, fun j hj => ?_, fun j => by rw [World.frozen?_setCell]; exact h.frz j⟩
  by_cases e : j = k
  · subst e
    rw [World.cell?_setCell_same _ _ _ (h.at_ j hj), updI_self]
  · rw [World.cell?_setCell_other _ _ _ _ (fun h2 => e (by injection h2 with _ h3; exact h3.symm)), h.at_ j hj, updI_ne (by omega)]
theorem TbAt.of_own {base c : Nat} {x : Int} {A : Option Addr} (h : OwnE 1 encI 3 base W (.slice A n c) (List.replicate n x)) (hn : 1 ≤ n) : ∃ T, A = some ⟨T, 0, none⟩ ∧ base ≤ T ∧ TbAt T n (fun _ => x) W := by
  obtain ⟨g, rfl, -, hg0, hg1, hfz⟩ := h.form (by simp; omega)
  refine ⟨g, rfl, hg0, hg1, fun k hk => ?_, hfz⟩
  exact OwnE.cell1 h (by rw [List.getElem?_replicate, if_pos hk])
end

set_option maxRecDepth 20000 in
set_option maxHeartbeats 1600000 in
theorem l7Ready_any {T n c : Nat} {s0 ch : Int} {f : Int → Int} (x : Nat) (y z : Int) (W : World) (h : TbAt T n f W) (hx : x < n) (hf : -1 ≤ f x ∧ f x ≤ 10000) (hch : 0 ≤ ch ∧ ch ≤ 10000) :
    Calls Tryz.prog 131 #[.slice (some ⟨T, 0, none⟩) n c, .int .i64 s0, .agg #[.int .i64 x, .int .i64 y, .int .i64 z], .int .i64 ch] W (OnlyB (Rdy f s0 ch ⟨x, y, z⟩) W) := by
  obtain ⟨htl, gt, -⟩ := h
  have gx := gt x hx
  generalize hv : f x = v at *
  have hR : Hid (Rdy f s0 ch ⟨x, y, z⟩ ↔ 0 ≤ v ∧ v + lag s0 ch x ≤ z) := Lib.hid (by unfold Rdy; dsimp only; rw [hv])
  have HB := Lib.hid (below_alloc (Below.refl W.heap.size W) (.cells #[.int .i64 (x : Int), .int .i64 y, .int .i64 z] 103))
  have hxn : (x : Int) < (n : Int) := by omega
  clear gt hv
  by_cases hv0 : v < 0
  · have HN := Lib.hid (show ¬ Rdy f s0 ch ⟨x, y, z⟩ from fun h => by have := hR.out.1 h; omega)
    go_enter Tryz.func131, Tryz.ntmps131
    go_wp2_with fail
    go_ret
    exact onlyB_false HN.out HB.out
  by_cases hs : (x : Int) = s0
  · have ds : ((x : Int) == s0) = true := by simpa using hs
    have HR2 : Hid (Rdy f s0 ch ⟨x, y, z⟩ ↔ v ≤ z) := Lib.hid (by rw [hR.out]; unfold lag; rw [if_pos hs]; omega)
    clear hs
    go_enter Tryz.func131, Tryz.ntmps131
    go_wp2_with fail
    go_quiet (fail)
    go_wp2_with fail
    go_ret
    exact ⟨decide (v ≤ z), rfl, by rw [HR2.out]; exact decide_eq_true_iff, bl_drewN HB.out _⟩
  · have ds : ((x : Int) == s0) = false := by simpa using hs
    have HR2 : Hid (Rdy f s0 ch ⟨x, y, z⟩ ↔ v + ch ≤ z) := Lib.hid (by rw [hR.out]; unfold lag; rw [if_neg hs]; omega)
    have ew : IntKind.i64.wrap (v + ch) = v + ch := IntWalk.i64_in _ (by omega)
    clear hs
    go_enter Tryz.func131, Tryz.ntmps131
    go_wp2_with fail
    go_quiet (fail)
    go_wp2_with fail
    go_ret
    exact ⟨decide (v + ch ≤ z), rfl, by rw [HR2.out]; exact decide_eq_true_iff, bl_drewN HB.out _⟩

/-- A table has been made. -/
def Tabled (n : Nat) (f : Int → Int) (w : World) (e : Ending) (w' : World) : Prop :=
  Below w.heap.size w w' ∧ ∃ T c, e = .returned (.slice (some ⟨T, 0, none⟩) n c) ∧ TbAt T n f w' ∧ w.heap.size ≤ T
theorem stopP_off {s0 ch : Int} {f : Int → Int} {p : T3} : stopP s0 ch (f, false) p = (f, decide (Rdy f s0 ch p)) := by simp [stopP]
theorem stopP_put {s0 ch : Int} {f : Int → Int} {p : T3} (h : f p.a < 0 ∨ p.b < f p.a) : stopP s0 ch (f, true) p = (updI f p.a p.b, true) := by simp [stopP, h]
theorem stopP_keep {s0 ch : Int} {f : Int → Int} {p : T3} (h : ¬ (f p.a < 0 ∨ p.b < f p.a)) : stopP s0 ch (f, true) p = (f, true) := by
  unfold stopP
  dsimp only
  rw [if_neg (fun h2 => h h2.2)]
  rfl
theorem coach_upto {s0 ch : Int} {f : Int → Int} {xs : List T3} {i : Nat} {p : T3} (h : xs[i]? = some p) : (xs.take (i + 1)).foldl (stopP s0 ch) (f, false) = stopP s0 ch ((xs.take i).foldl (stopP s0 ch) (f, false)) p := by
  rw [take_next h, List.foldl_append]
  rfl
theorem round_upto {s0 ch : Int} {f : Int → Int} {net : List (List T3)} {c : Nat} {xs : List T3} (h : net[c]? = some xs) : (net.take (c + 1)).foldl (coachP s0 ch) f = coachP s0 ch ((net.take c).foldl (coachP s0 ch) f) xs := by
  rw [take_next h, List.foldl_append]
  rfl
set_option maxRecDepth 20000 in
set_option maxHeartbeats 6400000 in
theorem l7Table_any (A : Option Addr) (n m cap : Nat) (net : List (List T3)) (s0 : Nat) (t0 ch : Int) (w : World) (h : NetS w A m net) (hok : PostOk n net s0 t0 ch) :
    Calls Tryz.prog 98 #[.int .i64 n, .slice A m cap, .int .i64 s0, .int .i64 t0, .int .i64 ch] w (Tabled n (roundsP s0 t0 ch net (n + 1)) w) := by
  have H := Lib.hid h
  have HL := Lib.hid h.len
  have HOK := Lib.hid hok
  have hn1 := hok.net.1
  have hn8 := hok.net.2.1
  have hm6 := hok.net.2.2.1
  rw [HL.out] at hm6
  have hs0 := hok.s0
  clear h hok
  go_enter Tryz.func98, Tryz.ntmps98
  go_wp2_with fail
  go_loopw [11, 12] (fun v i wr => ∃ k : Nat, k ≤ n ∧ i = .int .i64 k ∧ OwnE 1 encI 3 w.heap.size wr v (List.replicate k (-1)) ∧ Below w.heap.size w wr) (fun _ i _ => n - (intOf i).toNat)
  case atStart => exact ⟨0, by omega, rfl, own_new w _ _ (Nat.le_refl _) encI_len [] #[] rfl (by simp) rfl, below_alloc (Below.refl _ _) _⟩
  case round =>
    obtain ⟨k, hk, rfl, hown, hbr⟩ := hrel
    have HR := Lib.hid hbr
    have HO := Lib.hid hown
    have hsz := hbr.size
    clear hbr hown
    by_cases hkn : k < n
    · have hrl : (List.replicate k (-1 : Int)).length = k := by simp
      have HRL := Lib.hid hrl
      have HRN := Lib.hid (show List.replicate (k + 1) (-1 : Int) = List.replicate k (-1) ++ [-1] from List.replicate_succ')
      clear hrl
      generalize List.replicate k (-1 : Int) = rs at *
      go_wp2_with (at_builtin; refine wpList_push 1 8 3 encI encI_len encI_one (by omega) (-1) _ _ rfl rfl _ _ _ rfl Tryz.underlying29 info_intN rfl w.heap.size _ _ rfl rfl rfl HO.out (by rw [HRL.out]; omega) (by rw [HRL.out]; unfold maxLen; omega) hsz ?_; intro v' w' hown' hg'; have HO' := Lib.hid hown'; have HB' := Lib.hid (below_grown HR.out hg' HO.out (Nat.le_refl _)); clear hown' hg')
      go_roundw
      case rel => exact ⟨k + 1, by omega, by go_num, by rw [HRN.out]; exact HO'.out, HB'.out⟩
      case measure => simp [intOf]; omega
    obtain rfl : k = n := by omega
    obtain ⟨A1, c1, rfl, -, hc1⟩ := HO.out.slc encI_len (n := k) (by simp)
    obtain ⟨T, rfl, hT, htb⟩ := TbAt.of_own HO.out (by omega)
    have HT := Lib.hid hT
    have TB := Lib.hid (htb.put s0 t0 (by omega))
    have gz := htb.frz s0
    have gc := htb.at_ s0 (by omega)
    have i1 : (s0 : Int) < (k : Int) := by omega
    have HB1 := Lib.hid (HR.out.setCell (p := ⟨T, s0, none⟩) hT (.int .i64 t0))
    have hTs := htb.tl
    clear htb HO hT
    go_wp2_with fail
    obtain ⟨n, rfl⟩ : ∃ n, n = k := ⟨_, rfl⟩
    obtain ⟨W1, hW1⟩ : ∃ W1, W1 = wr.setCell ⟨T, s0, none⟩ (.int .i64 t0) := ⟨_, rfl⟩
    rw [← hW1] at TB HB1 ⊢
    clear hW1 gz gc hTs
    go_loopw [13] (fun r wr2 => ∃ r' : Nat, r' ≤ n + 1 ∧ r = .int .i64 r' ∧ TbAt T n (roundsP s0 t0 ch net r') wr2 ∧ Below w.heap.size w wr2) (fun r _ => n + 1 - (intOf r).toNat)
    case atStart => exact ⟨0, by omega, rfl, TB.out, HB1.out⟩
    case round =>
      obtain ⟨r, hr, rfl, htb, hbr⟩ := hrel
      have TR := Lib.hid htb
      have HR2 := Lib.hid hbr
      clear htb hbr
      by_cases hrn : r ≤ n
      rotate_left
      · obtain rfl : r = n + 1 := by omega
        go_wp2_with fail
        go_ret
        exact ⟨HR2.out, T, c1, rfl, TR.out, HT.out⟩
      have HSR := Lib.hid (rounds_snd HOK.out r).1
      have HRX := Lib.hid (show roundsP s0 t0 ch net (r + 1) = net.foldl (coachP s0 ch) (roundsP s0 t0 ch net r) from rfl)
      obtain ⟨fr, hfr⟩ : ∃ fr, roundsP s0 t0 ch net r = fr := ⟨_, rfl⟩
      rw [hfr] at TR HSR HRX
      have HFR := Lib.hid hfr
      clear hfr
      go_wp2_with fail
      go_loopw [14] (fun c wr3 => ∃ c' : Nat, c' ≤ m ∧ c = .int .i64 c' ∧ TbAt T n ((net.take c').foldl (coachP s0 ch) fr) wr3 ∧ Below w.heap.size w wr3) (fun c _ => m - (intOf c).toNat)
      case atStart => exact ⟨0, by omega, rfl, TR.out, HR2.out⟩
      case round =>
        obtain ⟨c, hc, rfl, htb, hbr⟩ := hrel
        have TC := Lib.hid htb
        have HR3 := Lib.hid hbr
        clear htb hbr
        by_cases hcm : c < m
        rotate_left
        · obtain rfl : c = m := by omega
          have HTE := Lib.hid (show TbAt T n (roundsP s0 t0 ch net (r + 1)) wr from by
            have h1 := TC.out
            rw [List.take_of_length_le (by rw [HL.out]; exact Nat.le_refl _), ← HRX.out] at h1
            exact h1)
          go_wp2_with fail
          go_roundw
          case rel => exact ⟨r + 1, by omega, by go_num, HTE.out, HR3.out⟩
          case measure => simp [intOf]; omega
        obtain ⟨b, off, A', n', c', xs, rfl, hbl, hcell, hx, hsl, hnc⟩ := H.out.at_ (Below.refl _ _) hcm
        have HX := Lib.hid hx
        have HSL := Lib.hid hsl
        have HCL := Lib.hid (fun W (hW : Below w.heap.size w W) => (cell_below' hW hcell : W.cell? ⟨b, off + c, none⟩ = some (.slice A' n' c')))
        have hn8' : n' ≤ 8 := by have h1 := (HOK.out.net.2.2.2 xs (List.mem_of_getElem? hx)).2.2.2.1; rw [hsl.len] at h1; exact h1
        have HSC := Lib.hid (round_fold HOK.out (net.take c) fr (fun ys hy => List.mem_of_mem_take hy) HSR.out).1
        have HUC := Lib.hid (round_upto (s0 := (s0 : Int)) (ch := ch) (f := fr) hx)
        obtain ⟨fc, hfc⟩ : ∃ fc, (net.take c).foldl (coachP s0 ch) fr = fc := ⟨_, rfl⟩
        rw [hfc] at TC HSC HUC
        clear hx hsl hcell hfc
        go_wp2_with fail
        go_loopw [15, 16] (fun on i wr4 => ∃ (q : Nat) (f1 : Int → Int) (ob : Bool), q ≤ n' ∧ i = .int .i64 q ∧ on = .bool ob ∧ (xs.take q).foldl (stopP s0 ch) (fc, false) = (f1, ob) ∧ TbAt T n f1 wr4 ∧ Below w.heap.size w wr4) (fun _ i _ => n' - (intOf i).toNat)
        case atStart => exact ⟨0, fc, false, by omega, rfl, rfl, rfl, TC.out, HR3.out⟩
        case round =>
          obtain ⟨q, f1, ob, hq, rfl, rfl, hst, htb, hbr⟩ := hrel
          have TI := Lib.hid htb
          have HR4 := Lib.hid hbr
          have HST := Lib.hid hst
          have hcell := HCL.out _ hbr
          clear htb hbr hst
          by_cases hqn : q < n'
          rotate_left
          · obtain rfl : q = n' := by omega
            have HTE := Lib.hid (show TbAt T n ((net.take (c + 1)).foldl (coachP s0 ch) fr) wr from by
              have h1 := HST.out
              rw [List.take_of_length_le (by rw [HSL.out.len]; exact Nat.le_refl _)] at h1
              rw [HUC.out]
              unfold coachP
              rw [h1]
              exact TI.out)
            go_wp2_with fail
            go_roundw
            case rel => exact ⟨c + 1, by omega, by go_num, HTE.out, HR4.out⟩
            case measure => simp [intOf]; omega
          obtain ⟨b2, off2, x, y, z, rfl, hbl2, hp, -, g0, g1, g2⟩ := at3 HSL.out HR4.out hqn
          have hxs := List.mem_of_getElem? HX.out
          have hpb := stop_bd HOK.out.net hxs hp
          dsimp only at hpb
          obtain ⟨x, rfl⟩ : ∃ i : Nat, x = i := ⟨x.toNat, by omega⟩
          have HUP := Lib.hid (coach_upto (s0 := (s0 : Int)) (ch := ch) (f := fc) hp)
          have hsn : SndP net s0 t0 ch f1 := by
            have h1 := (coach_fold HOK.out hxs HSC.out q (by rw [HSL.out.len]; exact hq)).1.1
            rw [HST.out] at h1
            exact h1
          have hbd := snd_bd HOK.out hsn (x : Int)
          have BX := Lib.hid (below_alloc (Below.refl wr.heap.size wr) (.cells #[.int .i64 (x : Int), .int .i64 y, .int .i64 z] 103))
          have TX := Lib.hid (TI.out.below BX.out)
          have HBX := Lib.hid (HR4.out.trans (BX.out.mono HR4.out.size))
          have hxn : (x : Int) < (n : Int) := by omega
          have hxn2 : x < n := by omega
          clear hp hsn
          cases ob with
          | false =>
            have HRY := Lib.hid (fun W h => l7Ready_any (T := T) (n := n) (c := c1) (s0 := (s0 : Int)) (ch := ch) (f := f1) x y z W h hxn2 ⟨hbd.1, hbd.2.1⟩ HOK.out.ch)
            by_cases hrd : Rdy f1 s0 ch ⟨(x : Int), y, z⟩
            · have HRD := Lib.hid hrd
              clear hrd hbd
              go_wp2_with fail
              go_quiet (fail)
              go_wp2_with fail
              refine (HRY.out _ (TX.out.below (bl_drewN (Below.refl _ _) _))).mono ?_
              intro e w5 hp
              obtain ⟨rfl, hb5⟩ := hp.yes HRD.out
              have T5 := Lib.hid ((TX.out.below (bl_drewN (Below.refl _ _) _)).below hb5)
              have HB5 := Lib.hid (below_trans (bl_drewN HBX.out _) hb5)
              clear hp hb5
              go_wp2_with fail
              go_roundw
              case rel => exact ⟨q + 1, f1, true, by omega, by go_num, rfl, by rw [HUP.out, HST.out, stopP_off, decide_eq_true HRD.out], T5.out, HB5.out⟩
              case measure => simp [intOf]; omega
            · have HRD := Lib.hid hrd
              clear hrd hbd
              go_wp2_with fail
              go_quiet (fail)
              go_wp2_with fail
              refine (HRY.out _ (TX.out.below (bl_drewN (Below.refl _ _) _))).mono ?_
              intro e w5 hp
              obtain ⟨rfl, hb5⟩ := hp.no HRD.out
              have T5 := Lib.hid ((TX.out.below (bl_drewN (Below.refl _ _) _)).below hb5)
              have HB5 := Lib.hid (below_trans (bl_drewN HBX.out _) hb5)
              clear hp hb5
              go_wp2_with fail
              go_roundw
              case rel => exact ⟨q + 1, f1, false, by omega, by go_num, rfl, by rw [HUP.out, HST.out, stopP_off, decide_eq_false HRD.out], T5.out, HB5.out⟩
              case measure => simp [intOf]; omega
          | true =>
            obtain ⟨v, hv⟩ : ∃ v, f1 x = v := ⟨_, rfl⟩
            have hcx := TI.out.at_ x hxn2
            have hfx := TI.out.frz x
            have htl := TI.out.tl
            rw [hv] at hcx hbd
            have HV := Lib.hid hv
            clear hv
            by_cases hv0 : v < 0
            · have dv : decide (v < 0) = true := by simp [hv0]
              have TP := Lib.hid (fun W (h : TbAt T n f1 W) => h.put x y hxn2)
              have HPU := Lib.hid (show f1 (⟨(x : Int), y, z⟩ : T3).a < 0 ∨ (⟨(x : Int), y, z⟩ : T3).b < f1 (⟨(x : Int), y, z⟩ : T3).a from .inl (by show f1 x < 0; rw [HV.out]; exact hv0))
              go_wp2_with fail
              go_quiet (fail)
              go_wp2_with fail
              go_roundw
              case rel => exact ⟨q + 1, updI f1 x y, true, by omega, by go_num, rfl, by rw [HUP.out, HST.out, stopP_put HPU.out], TP.out _ (TX.out.below (bl_drewN (Below.refl _ _) _)), (bl_drewN HBX.out _).setCell (p := ⟨T, x, none⟩) HT.out _⟩
              case measure => simp [intOf]; omega
            by_cases hyv : y < v
            · have dv : decide (v < 0) = false := by simp; omega
              have dy : decide (y < v) = true := by simp [hyv]
              have TP := Lib.hid (fun W (h : TbAt T n f1 W) => h.put x y hxn2)
              have HPU := Lib.hid (show f1 (⟨(x : Int), y, z⟩ : T3).a < 0 ∨ (⟨(x : Int), y, z⟩ : T3).b < f1 (⟨(x : Int), y, z⟩ : T3).a from .inr (by show y < f1 x; rw [HV.out]; exact hyv))
              go_wp2_with fail
              go_quiet (fail)
              go_wp2_with fail
              go_roundw
              case rel => exact ⟨q + 1, updI f1 x y, true, by omega, by go_num, rfl, by rw [HUP.out, HST.out, stopP_put HPU.out], TP.out _ (TX.out.below (bl_drewN (Below.refl _ _) _)), (bl_drewN HBX.out _).setCell (p := ⟨T, x, none⟩) HT.out _⟩
              case measure => simp [intOf]; omega
            · have dv : decide (v < 0) = false := by simp; omega
              have dy : decide (y < v) = false := by simp; omega
              have HPU := Lib.hid (show ¬ (f1 (⟨(x : Int), y, z⟩ : T3).a < 0 ∨ (⟨(x : Int), y, z⟩ : T3).b < f1 (⟨(x : Int), y, z⟩ : T3).a) from fun h => by
                have h2 : f1 x < 0 ∨ y < f1 x := h
                rw [HV.out] at h2
                omega)
              go_wp2_with fail
              go_quiet (fail)
              go_wp2_with fail
              go_roundw
              case rel => exact ⟨q + 1, f1, true, by omega, by go_num, rfl, by rw [HUP.out, HST.out, stopP_keep HPU.out], TX.out.below (bl_drewN (Below.refl _ _) _), bl_drewN HBX.out _⟩
              case measure => simp [intOf]; omega
end Go.Proofs.YtgjllminidlolaaGreatDoor
