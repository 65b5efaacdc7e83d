/- Walk of FnTollValid. -/
import Derived.Test.YtngbpdijempkpaaDrawS
import Derived.Test.YtngbpdijempkpaaTPlainG
import Derived.Test.YtngbpdijempkpaaLV
import Derived.Test.YtngbpdijempkpaaTWalkC
import Derived.Test.YtngbpdijempkpaaTWalkS
import Derived.Test.YtngbpdijempkpaaHasInt
import Derived.Deep.QuietTactic
import Derived.BigQuiet
set_option linter.unusedVariables false
namespace Go.Proofs.Ytngbpdijempkpaa
open Go.RowKit

set_option maxRecDepth 20000 in
set_option maxHeartbeats 6400000 in
theorem lawFnTollValid_walk (A0 : Option Addr) (len0 cap0 : Nat) (xs0 : List Int) (w : World) (h0 : SlE 1 encU w A0 len0 xs0) (hb0 : Bytes xs0) (hc0 : len0 ≤ cap0) :
    Calls Try.prog 5 #[.slice A0 len0 cap0] w (Only (.bool true) w) := by
  have H0 := Lib.hid h0
  have HB0 := Lib.hid hb0
  clear h0 hb0
  by_cases hbig : (len0 : Int) ≤ 1048576
  rotate_left
  · go_enter Try.func5, Try.ntmps5
    go_wp2_with fail
    go_ret
    exact ⟨rfl, Below.refl _ _⟩
  go_enter Try.func5, Try.ntmps5
  go_wp2_with fail
  refine (drawTollValid_any A0 len0 cap0 xs0 w H0.out HB0.out (by omega) hc0).mono ?_
  rintro e w1 ⟨v, xs, free, x, y, u, paid, rfl, hl, ⟨f0, f1⟩, ⟨x0, x1⟩, ⟨y0, y1⟩, hyl, hown, howp, hb1⟩
  obtain ⟨A, c, rfl, -, hlc⟩ := hown.slc enc3_len rfl
  obtain ⟨Ap, cp, rfl, -, hlp⟩ := howp.slc encI_len rfl
  generalize hlen : xs.length = len at *
  generalize hplen : paid.length = m at *
  have HL := Lib.hid hlen
  have HM := Lib.hid hplen
  have O1 := Lib.hid (sl_of_own_at enc3_len hown hlen)
  have P1 := Lib.hid (sl_of_own_at encI_len howp hplen)
  have B1 := Lib.hid hb1
  clear hown howp hb1 H0 HB0 hlen hplen
  by_cases hok : PayOk xs free x y paid
  · have HOK := Lib.hid hok
    obtain ⟨⟨⟨hG, ⟨x2, x3⟩, y2, y3⟩, f2, f3⟩, hpay⟩ := hok
    have hps : Asc (gAt xs) (idxIf (inW x y) xs) := idxIf_asc hG
    have hpl : (idxIf (inW x y) xs).length ≤ 10 := Nat.le_trans (idxIf_len (inW x y) xs) (by rw [HL.out]; omega)
    have HI := Lib.hid (way_idx (f := inW x y) hG HL.out)
    have HFP : Hid (∀ (k : Nat) (i : Int), (idxIf (inW x y) xs)[k]? = some i → (gAt xs i).b ∉ ((idxIf (inW x y) xs).take k).map (fun j => (gAt xs j).b) → i ∈ paid) := fun k i h1 h2 =>
      first_paid hps hpay h1 (fun j hj e => h2 (List.mem_map.2 ⟨j, hj, e⟩))
    have HV2 : Hid (PayOk xs free x y (idxIf (inW x y) xs)) := ⟨HOK.out.1, pays_all _⟩
    have HV3 : Hid (free < 999 → PayOk xs (free + 1) x y paid) := fun h => ⟨⟨HOK.out.1.1, by omega, by omega⟩, hpay.more (by omega)⟩
    have HPS : Hid (∀ W, SlE 3 enc3 W A len xs → Calls Try.prog 22 #[.slice A len c, .int .i64 x, .int .i64 y] W (RetOwn 1 encI 3 (idxIf (inW x y) xs) W)) :=
      fun W h1 => implGatesPassed_any A len c xs x y _ W h1 (by omega) (.inl ⟨HOK.out.1.1, rfl⟩)
    clear hG hps hpay
    generalize idxIf (inW x y) xs = ps at *
    generalize hpsl : ps.length = pl at *
    have HPL := Lib.hid hpsl
    clear hpsl
    go_wp2_with fail
    refine (implTollValid_any A Ap len c m cp xs free x y paid w1 O1.out P1.out (by omega) (by omega)).mono ?_
    intro e w2 hp
    obtain ⟨rfl, hb2⟩ := hp.yes HOK.out
    have O2 := Lib.hid (O1.out.below hb2)
    have P2 := Lib.hid (P1.out.below hb2)
    have B2 := Lib.hid (below_trans B1.out hb2)
    clear hb2 hp O1 P1 B1
    go_wp2_with fail
    refine (specTollValid_any A Ap len c m cp xs free x y paid w2 O2.out P2.out (by omega) (by omega)).mono ?_
    intro e w3 hp
    obtain ⟨rfl, hb3⟩ := hp.yes HOK.out
    have O3 := Lib.hid (O2.out.below hb3)
    have P3 := Lib.hid (P2.out.below hb3)
    have B3 := Lib.hid (below_trans B2.out hb3)
    clear hb3 hp O2 P2 B2
    go_wp2_with fail
    refine (HPS.out w3 O3.out).mono ?_
    rintro e w4 ⟨v4, rfl, hown4, hb4⟩
    obtain ⟨A4, c4, rfl, -, -⟩ := hown4.slc encI_len HPL.out
    have Q4 := Lib.hid (sl_of_own_at encI_len hown4 HPL.out)
    have O4 := Lib.hid (O3.out.below hb4)
    have P4 := Lib.hid (P3.out.below hb4)
    have B4 := Lib.hid (below_trans B3.out hb4)
    clear hb4 hown4 O3 B3 P3
    obtain ⟨W0, rfl⟩ : ∃ W0, W0 = w4 := ⟨_, rfl⟩
    go_wp2_with fail
    go_loopw [12, 11, 13] (fun i s _ wr => ∃ k : Nat, k ≤ pl ∧ i = .int .i64 k ∧ OwnE 1 encI 3 W0.heap.size wr s ((ps.take k).map fun j => (gAt xs j).b) ∧ Below W0.heap.size W0 wr) (fun i _ _ _ => pl - (intOf i).toNat)
    case atStart => exact ⟨0, by omega, rfl, own_new W0 _ _ (Nat.le_refl _) encI_len [] #[] rfl (by simp) rfl, below_alloc (Below.refl _ _) _⟩
    case round =>
      obtain ⟨k, hk, rfl, hown, hbr⟩ := hrel
      have HO := Lib.hid hown
      have HR := Lib.hid hbr
      clear hown hbr
      have hsl : ((ps.take k).map fun j => (gAt xs j).b).length = k := by rw [List.length_map, List.length_take, HPL.out]; omega
      have HSL := Lib.hid hsl
      by_cases hlt : k < pl
      · obtain ⟨As, cs, rfl, hss, -⟩ := HO.out.slc encI_len hsl
        have HSS := Lib.hid hss
        clear hss hsl
        obtain ⟨bp, op, q, rfl, hbp, hx, hd, p0⟩ := at1 Q4.out HR.out hlt
        obtain ⟨hq0, hq1⟩ := HI.out q (mem_at hx)
        obtain ⟨q, rfl⟩ : ∃ n : Nat, q = n := ⟨q.toNat, by omega⟩
        have hq1' : q < len := by omega
        obtain ⟨bg, og, gx, gy, gz, rfl, hbg, hx1, hd1, g0, g1, g2⟩ := at3 O4.out HR.out hq1'
        have HQ := Lib.hid (gAt_at hx1)
        have HFP' := Lib.hid (HFP.out k q hx)
        have HNX := Lib.hid (show (ps.take (k + 1)).map (fun j => (gAt xs j).b) = (ps.take k).map (fun j => (gAt xs j).b) ++ [(gAt xs q).b] by rw [take_next hx, List.map_append]; rfl)
        rw [HQ.out] at HNX HFP'
        have HP4 := Lib.hid (P4.out.below HR.out)
        clear hx hd hx1 hd1
        generalize (ps.take k).map (fun j => (gAt xs j).b) = seen at *
        go_wp2_with fail
        refine (hasInt_any As k cs seen gy wr HSS.out (by omega)).mono ?_
        intro e w5 hp
        by_cases hin : gy ∈ seen
        · obtain ⟨rfl, rfl⟩ := hp.yes hin
          clear hp
          have hsz := HR.out.size
          go_wp2_with (at_builtin; refine wpList_push 1 8 3 encI encI_len encI_one (by omega) gy _ _ rfl rfl _ _ _ rfl Try.underlying35 info_int rfl W0.heap.size _ _ rfl rfl rfl HO.out (by rw [HSL.out]; omega) (by rw [HSL.out]; unfold maxLen; omega) hsz ?_; intro v' w' hown' hg'; have HO' := Lib.hid hown'; have HB' := Lib.hid (below_grown HR.out hg' HO.out (Nat.le_refl _)); clear hown' hg')
          go_roundw
          case rel => exact ⟨k + 1, by omega, by go_num, by rw [HNX.out]; exact HO'.out, HB'.out⟩
          case measure => simp [intOf]; omega
        · obtain ⟨rfl, rfl⟩ := hp.no hin
          have HIN := Lib.hid (HFP'.out hin)
          clear hp
          have hsz := HR.out.size
          go_wp2_with fail
          refine (hasInt_any Ap m cp paid q wr HP4.out (by omega)).mono ?_
          intro e w6 hp
          obtain ⟨rfl, rfl⟩ := hp.yes HIN.out
          clear hp
          go_wp2_with (at_builtin; refine wpList_push 1 8 3 encI encI_len encI_one (by omega) gy _ _ rfl rfl _ _ _ rfl Try.underlying35 info_int rfl W0.heap.size _ _ rfl rfl rfl HO.out (by rw [HSL.out]; omega) (by rw [HSL.out]; unfold maxLen; omega) hsz ?_; intro v' w' hown' hg'; have HO' := Lib.hid hown'; have HB' := Lib.hid (below_grown HR.out hg' HO.out (Nat.le_refl _)); clear hown' hg')
          go_roundw
          case rel => exact ⟨k + 1, by omega, by go_num, by rw [HNX.out]; exact HO'.out, HB'.out⟩
          case measure => simp [intOf]; omega
      · have e : k = pl := by omega
        subst e
        clear hsl
        have O5 := Lib.hid (O4.out.below HR.out)
        have P5 := Lib.hid (P4.out.below HR.out)
        have Q5 := Lib.hid (Q4.out.below HR.out)
        have B5 := Lib.hid (below_trans B4.out HR.out)
        go_wp2_with fail
        refine (implTollValid_any A A4 len c k c4 xs free x y ps wr O5.out Q5.out (by omega) (by omega)).mono ?_
        intro e w6 hp
        obtain ⟨rfl, hb6⟩ := hp.yes HV2.out
        have O6 := Lib.hid (O5.out.below hb6)
        have P6 := Lib.hid (P5.out.below hb6)
        have B6 := Lib.hid (below_trans B5.out hb6)
        clear hb6 hp
        by_cases hfe : free = 999
        · have hfe' : (free == 999) = true := by simp [hfe]
          go_wp2_with fail
          go_ret
          exact ⟨rfl, B6.out⟩
        · have hfe' : (free == 999) = false := by simp [hfe]
          have x9 : IntKind.i64.wrap (free + 1) = free + 1 := IntWalk.i64_in _ (by omega)
          go_wp2_with fail
          refine (implTollValid_any A Ap len c m cp xs (free + 1) x y paid w6 O6.out P6.out (by omega) (by omega)).mono ?_
          intro e w7 hp
          obtain ⟨rfl, hb7⟩ := hp.yes (HV3.out (by omega))
          have B7 := Lib.hid (below_trans B6.out hb7)
          clear hb7 hp
          go_wp2_with fail
          go_ret
          exact ⟨rfl, B7.out⟩
  · have HN := Lib.hid hok
    clear hok
    go_wp2_with fail
    refine (implTollValid_any A Ap len c m cp xs free x y paid w1 O1.out P1.out (by omega) (by omega)).mono ?_
    intro e w2 hp
    obtain ⟨rfl, hb2⟩ := hp.no HN.out
    have O2 := Lib.hid (O1.out.below hb2)
    have P2 := Lib.hid (P1.out.below hb2)
    have B2 := Lib.hid (below_trans B1.out hb2)
    clear hb2 hp O1 P1 B1
    go_wp2_with fail
    refine (specTollValid_any A Ap len c m cp xs free x y paid w2 O2.out P2.out (by omega) (by omega)).mono ?_
    intro e w3 hp
    obtain ⟨rfl, hb3⟩ := hp.no HN.out
    have B3 := Lib.hid (below_trans B2.out hb3)
    clear hb3 hp O2 P2 B2
    go_wp2_with fail
    go_ret
    exact ⟨rfl, B3.out⟩
end Go.Proofs.Ytngbpdijempkpaa
