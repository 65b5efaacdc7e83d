/- Texts of mine in one: QWalkL QWalkM. -/
import Derived.Test.YtgjllminidlolaaGreatDoorVAY
/- Contracts: Execute of the reference. -/
set_option linter.unusedVariables false
namespace Go.Proofs.YtgjllminidlolaaGreatDoor
open Go.RowKit

theorem slE_put {α : Type} {k : Nat} {enc : α → List Value} {W : World} {A : Option Addr} {n : Nat} {xs : List α} (h : SlE k enc W A n xs) {R i : Nat} (hR : NoB R A n) (u : Value) : SlE k enc (W.setCell ⟨R, i, none⟩ u) A n xs :=
  ⟨h.1, fun hn => by
    obtain ⟨b, off, hA, hlt, hc⟩ := h.2 hn
    refine ⟨b, off, hA, by rw [show (W.setCell ⟨R, i, none⟩ u).heap.size = W.heap.size by simp [World.setCell]]; exact hlt, fun j p hj q v hv => ?_⟩
    rw [World.cell?_setCell_other _ _ _ _ (fun e => hR hn b off hA (by injection e with e; exact e.symm))]
    exact hc j p hj q v hv⟩
theorem AvR.put {R i : Nat} {W : World} {Ar An Ab : Option Addr} {s : LSt} (h : AvR R W Ar An Ab s) (u : Value) : AvR R (W.setCell ⟨R, i, none⟩ u) Ar An Ab s := by
  obtain ⟨h1, h2, h3, vs, h4, h5, h6⟩ := h
  refine ⟨h1, h2, h3, vs, slE_put h4 h3 u, h5, fun j v xs hv hx => ?_⟩
  obtain ⟨A', n', c', rfl, g1, g2, g3⟩ := h6 j v xs hv hx
  exact ⟨A', n', c', rfl, slE_put g1 g3 u, g2, g3⟩
theorem SpS.put {R i : Nat} {W : World} {Ar An Ab : Option Addr} {cr cn cb : Nat} {s : LSt} (h : SpS W Ar cr An cn Ab cb s) (ha : AvR R W Ar An Ab s) (u : Value) : SpS (W.setCell ⟨R, i, none⟩ u) Ar cr An cn Ab cb s :=
  ⟨slE_put h.r ha.r u, (ha.put u).n.netS, slE_put h.b ha.b u, h.rc⟩
theorem slE_noB {α : Type} {k : Nat} {enc : α → List Value} {W : World} {A : Option Addr} {n : Nat} {xs : List α} (h : SlE k enc W A n xs) : NoB W.heap.size A n := fun hn b off hA e => by
  obtain ⟨b', off', hA', hlt, -⟩ := h.2 hn
  rw [hA] at hA'
  injection hA' with hA'
  injection hA' with e1
  omega
/-- A new block is none of a state's. -/
theorem SpS.fresh {W : World} {Ar An Ab : Option Addr} {cr cn cb : Nat} {s : LSt} (h : SpS W Ar cr An cn Ab cb s) : AvR W.heap.size W Ar An Ab s := by
  refine ⟨slE_noB h.r, slE_noB h.b, ?_⟩
  obtain ⟨vs, h1, h2, h3⟩ := h.n
  refine ⟨slE_noB h1, vs, h1, h2, fun j u xs hu hx => ?_⟩
  obtain ⟨A', n', c', rfl, h4, h5⟩ := h3 j u xs hu hx
  exact ⟨A', n', c', rfl, h4, h5, slE_noB h4⟩
theorem AvR.other {R N i : Nat} {W : World} {Ar An Ab : Option Addr} {s : LSt} (h : AvR R W Ar An Ab s) (hn : AvR N W Ar An Ab s) (u : Value) : AvR R (W.setCell ⟨N, i, none⟩ u) Ar An Ab s := by
  obtain ⟨h1, h2, h3, vs, h4, h5, h6⟩ := h
  obtain ⟨g1, g2, g3, vs', g4, g5, g6⟩ := hn
  have hv : vs = vs' := by
    apply List.ext_getElem?
    intro j
    by_cases hj : j < s.net.length
    · obtain ⟨b, off, p, hA, -, hp, -, hc⟩ := h4.at_ hj
      obtain ⟨b', off', p', hA', -, hp', -, hc'⟩ := g4.at_ hj
      rw [hA] at hA'
      injection hA' with hA'
      injection hA' with e1 e2
      subst e1 e2
      have q1 := hc 0 _ rfl
      have q2 := hc' 0 _ rfl
      rw [q1] at q2
      injection q2 with q2
      rw [hp, hp', q2]
    · rw [List.getElem?_eq_none (by omega), List.getElem?_eq_none (by omega)]
  subst hv
  refine ⟨h1, h2, h3, vs, slE_put h4 g3 u, h5, fun j v xs hv hx => ?_⟩
  obtain ⟨A', n', c', rfl, k1, k2, k3⟩ := h6 j v xs hv hx
  obtain ⟨A2, n2, c2, he, l1, l2, l3⟩ := g6 j _ xs hv hx
  injection he with e1 e2 e3
  subst e1 e2
  exact ⟨A', n', c', rfl, slE_put k1 l3 u, k2, k3⟩
theorem av_sets {R N : Nat} {W : World} {Ar An Ab : Option Addr} {s : LSt} (h : AvR R W Ar An Ab s) (hn : AvR N W Ar An Ab s) (a b c : Value) : AvR R (((W.setCell ⟨N, 0, none⟩ a).setCell ⟨N, 1, none⟩ b).setCell ⟨N, 2, none⟩ c) Ar An Ab s :=
  ((h.other hn a).other (hn.put a) b).other ((hn.put a).put b) c
theorem cells4_sets {W : World} {N R g i j k l : Nat} {x y z u : Value} (h : W.cell? ⟨R, i, none⟩ = some x ∧ W.cell? ⟨R, j, none⟩ = some y ∧ W.cell? ⟨R, k, none⟩ = some z ∧ W.cell? ⟨g, l, none⟩ = some u) (hR : N ≠ R) (hg : N ≠ g) (a b c : Value) :
    (((W.setCell ⟨N, 0, none⟩ a).setCell ⟨N, 1, none⟩ b).setCell ⟨N, 2, none⟩ c).cell? ⟨R, i, none⟩ = some x ∧ (((W.setCell ⟨N, 0, none⟩ a).setCell ⟨N, 1, none⟩ b).setCell ⟨N, 2, none⟩ c).cell? ⟨R, j, none⟩ = some y ∧
      (((W.setCell ⟨N, 0, none⟩ a).setCell ⟨N, 1, none⟩ b).setCell ⟨N, 2, none⟩ c).cell? ⟨R, k, none⟩ = some z ∧ (((W.setCell ⟨N, 0, none⟩ a).setCell ⟨N, 1, none⟩ b).setCell ⟨N, 2, none⟩ c).cell? ⟨g, l, none⟩ = some u :=
  ⟨put_other hR (put_other hR (put_other hR h.1)), put_other hR (put_other hR (put_other hR h.2.1)), put_other hR (put_other hR (put_other hR h.2.2.1)), put_other hg (put_other hg (put_other hg h.2.2.2))⟩
/-- What the reference's loop over the lines keeps. -/
structure SpRun (w : World) (R B0 : Nat) (A5 : Value) (xs : List ByteArray) (s : LSt) (Ar : Option Addr) (cr : Nat) (An : Option Addr) (cn : Nat) (Ab : Option Addr) (cb : Nat) (W : World) : Prop where
  box : BoxAt W R (.slice Ar s.roads.length cr) (.slice An s.net.length cn) (.slice Ab s.list.length cb)
  sp : SpS W Ar cr An cn Ab cb s
  av : AvR R W Ar An Ab s
  own : OwnE 1 encS 9 B0 W A5 xs
  bl : Below w.heap.size w W
  rb : w.heap.size ≤ R
  lt : R < B0
theorem SpRun.below {w W W' : World} {R B0 : Nat} {A5 : Value} {xs : List ByteArray} {s : LSt} {Ar : Option Addr} {cr : Nat} {An : Option Addr} {cn : Nat} {Ab : Option Addr} {cb : Nat} (h : SpRun w R B0 A5 xs s Ar cr An cn Ab cb W) (hb : Below W.heap.size W W') : SpRun w R B0 A5 xs s Ar cr An cn Ab cb W' :=
  ⟨h.box.below hb, h.sp.below hb, h.av.below hb, OwnE.below h.own hb (Nat.le_refl _), below_trans h.bl hb, h.rb, h.lt⟩
/-- Behind a line: the new state lies in a box of its own, the old one where it was. -/
structure SpFin (w : World) (R B0 : Nat) (A5 : Value) (xs : List ByteArray) (s : LSt) (Ar : Option Addr) (cr : Nat) (An : Option Addr) (cn : Nat) (Ab : Option Addr) (cb : Nat) (o0 o1 o2 : Value) (N : Nat) (W : World) : Prop where
  nb : BoxAt W N (.slice Ar s.roads.length cr) (.slice An s.net.length cn) (.slice Ab s.list.length cb)
  qb : BoxAt W R o0 o1 o2
  sp : SpS W Ar cr An cn Ab cb s
  av : AvR R W Ar An Ab s
  own : OwnE 1 encS 9 B0 W A5 xs
  bl : Below w.heap.size w W
  rb : w.heap.size ≤ R
  lt : R < B0
theorem SpFin.run {w W : World} {R B0 N : Nat} {A5 : Value} {xs : List ByteArray} {s : LSt} {Ar : Option Addr} {cr : Nat} {An : Option Addr} {cn : Nat} {Ab : Option Addr} {cb : Nat} {o0 o1 o2 : Value} (h : SpFin w R B0 A5 xs s Ar cr An cn Ab cb o0 o1 o2 N W) :
    SpRun w R B0 A5 xs s Ar cr An cn Ab cb (((W.setCell ⟨R, 0, none⟩ (.slice Ar s.roads.length cr)).setCell ⟨R, 1, none⟩ (.slice An s.net.length cn)).setCell ⟨R, 2, none⟩ (.slice Ab s.list.length cb)) :=
  ⟨((h.qb.put0 _).put1 _).put2 _, ((h.sp.put h.av _).put (h.av.put _) _).put ((h.av.put _).put _) _, ((h.av.put _).put _).put _, own_put (own_put (own_put h.own h.lt _) h.lt _) h.lt _, box_sets h.bl h.rb _ _ _, h.rb, h.lt⟩
/-- The new state is laid in a new box. -/
theorem fin_alloc {w W : World} {R B0 : Nat} {A5 : Value} {xs : List ByteArray} {s : LSt} {Ar : Option Addr} {cr : Nat} {An : Option Addr} {cn : Nat} {Ab : Option Addr} {cb : Nat} {o0 o1 o2 : Value} (hq : BoxAt W R o0 o1 o2) (hs : SpS W Ar cr An cn Ab cb s) (ha : AvR R W Ar An Ab s)
    (ho : OwnE 1 encS 9 B0 W A5 xs) (hb : Below w.heap.size w W) (h1 : w.heap.size ≤ R) (h2 : R < B0) :
    SpFin w R B0 A5 xs s Ar cr An cn Ab cb o0 o1 o2 W.heap.size (W.alloc (.cells #[.slice Ar s.roads.length cr, .slice An s.net.length cn, .slice Ab s.list.length cb] 66)) := by
  have hw := below_alloc (Below.refl W.heap.size W) (.cells #[.slice Ar s.roads.length cr, .slice An s.net.length cn, .slice Ab s.list.length cb] 66)
  exact ⟨box_new W _ _ _ _, hq.below hw, hs.below hw, ha.below hw, OwnE.below ho hw (Nat.le_refl _), below_trans hb hw, h1, h2⟩
/-- The new state is laid in a box that is there. -/
theorem fin_put {w W : World} {R B0 N : Nat} {A5 : Value} {xs : List ByteArray} {s : LSt} {Ar : Option Addr} {cr : Nat} {An : Option Addr} {cn : Nat} {Ab : Option Addr} {cb : Nat} {o0 o1 o2 z0 z1 z2 : Value} (hq : BoxAt W R o0 o1 o2) (hn : BoxAt W N z0 z1 z2) (hs : SpS W Ar cr An cn Ab cb s) (ha : AvR R W Ar An Ab s) (hna : AvR N W Ar An Ab s)
    (ho : OwnE 1 encS 9 B0 W A5 xs) (hno : A5.ownBlock ≠ some N) (hb : Below w.heap.size w W) (h1 : w.heap.size ≤ R) (h2 : R < B0) (h3 : w.heap.size ≤ N) (hne : N ≠ R) :
    SpFin w R B0 A5 xs s Ar cr An cn Ab cb o0 o1 o2 N (((W.setCell ⟨N, 0, none⟩ (.slice Ar s.roads.length cr)).setCell ⟨N, 1, none⟩ (.slice An s.net.length cn)).setCell ⟨N, 2, none⟩ (.slice Ab s.list.length cb)) :=
  ⟨((hn.put0 _).put1 _).put2 _, ((hq.put hne).put hne).put hne, ((hs.put hna _).put (hna.put _) _).put ((hna.put _).put _) _, av_sets ha hna _ _ _,
    ((ho.apart (grown_setCell _ ⟨N, 0, none⟩ _) (.inr hno)).apart (grown_setCell _ ⟨N, 1, none⟩ _) (.inr hno)).apart (grown_setCell _ ⟨N, 2, none⟩ _) (.inr hno), box_sets hb h3 _ _ _, h1, h2⟩
theorem spRun_start (w : World) : ∃ W4, (((w.alloc (.cells #[] 43)).alloc (.cells #[] 50)).alloc (.cells #[] 34)).alloc (.cells #[.slice (some ⟨w.heap.size, 0, none⟩) 0 0, .slice (some ⟨w.heap.size + 1, 0, none⟩) 0 0, .slice (some ⟨w.heap.size + 2, 0, none⟩) 0 0] 66) = W4 ∧
    BoxAt W4 (w.heap.size + 3) (.slice (some ⟨w.heap.size, 0, none⟩) 0 0) (.slice (some ⟨w.heap.size + 1, 0, none⟩) 0 0) (.slice (some ⟨w.heap.size + 2, 0, none⟩) 0 0) ∧ Below w.heap.size w W4 ∧ W4.heap.size = w.heap.size + 4 := by
  refine ⟨_, rfl, box_at _ _ _ _ _ (by simp), below_alloc (below_alloc (below_alloc (below_alloc (Below.refl w.heap.size w) _) _) _) _, by simp⟩
set_option maxRecDepth 20000 in
set_option maxHeartbeats 12800000 in
theorem specExecute_any (str : ByteArray) (ls : List (List UInt8)) (last : List UInt8) (w : World) (hs : str.size ≤ 500) (hc : cutL 10 str.data.toList = ls ++ [last]) :
    Calls Tryz.prog 12 #[.string str] w (Only (.string (bs (scriptOut ls))) w) := by
  have hn := cutL_size 10 str
  rw [hc, List.length_append, List.length_singleton] at hn
  obtain ⟨m, hm⟩ : ∃ m, ls.length = m := ⟨_, rfl⟩
  rw [hm] at hn
  have HM := Lib.hid hm
  obtain ⟨W4, hW4, hbox, hbl, hsz⟩ := spRun_start w
  have HCUT := Lib.hid (l10Cut_any 10 10 rfl str W4 (by omega))
  rw [hc] at HCUT
  have HBOX := Lib.hid hbox
  have HBL := Lib.hid hbl
  have HSZ := Lib.hid hsz
  have HLEN := Lib.hid (show ∀ l ∈ ls, l.length ≤ 500 from fun l hl => by
    have h1 := cutL_part 10 str.data.toList l (by rw [hc]; exact List.mem_append_left _ hl)
    have h2 : str.data.toList.length = str.size := by simp
    omega)
  have HTB := Lib.hid (show ∀ j, j ≤ m → (textOf (scrT ls j)).length ≤ 700000 from fun j hj => by
    have hT := scrT_bd ls j
    have h1 := textOf_len 200 (scrT ls j) hT.2
    have h3 : (scrT ls j).length * (200 + 1) ≤ 3006 * (200 + 1) := Nat.mul_le_mul_right _ (by omega)
    omega)
  have i0 : ¬ 500 < (str.size : Int) := by omega
  have HS0 : Hid ((⟨#[]⟩ : ByteArray) = bs (textOf (scrT ls 0))) := Lib.hid rfl
  clear hm hc hbox hbl hsz
  go_enter Tryz.func12, Tryz.ntmps12
  go_wp2_with fail
  clear hW4
  refine HCUT.out.mono ?_
  rintro e w2 ⟨v5, rfl, hown, hb2⟩
  obtain ⟨A5, c5, rfl, -, hc5⟩ := hown.slc encS_len (n := m + 1) (by rw [List.length_map, List.length_append, List.length_singleton, HM.out])
  obtain ⟨g, rfl, -, hg0, hg1, -⟩ := hown.form (by rw [List.length_map, List.length_append, List.length_singleton]; omega)
  have RUN := Lib.hid (show SpRun w (w.heap.size + 3) W4.heap.size (.slice (some ⟨g, 0, none⟩) (m + 1) c5) ((ls ++ [last]).map bs) ⟨[], [], []⟩ (some ⟨w.heap.size, 0, none⟩) 0 (some ⟨w.heap.size + 1, 0, none⟩) 0 (some ⟨w.heap.size + 2, 0, none⟩) 0 w2 from
    ⟨HBOX.out.below hb2, ⟨SlE.nil_, ⟨[], SlE.nil_, rfl, fun j u xs hu => by cases hu⟩, SlE.nil_, Nat.le_refl _⟩,
     ⟨fun hn => absurd hn (Nat.lt_irrefl 0), fun hn => absurd hn (Nat.lt_irrefl 0), fun hn => absurd hn (Nat.lt_irrefl 0), [], SlE.nil_, rfl, fun j u xs hu => by cases hu⟩,
     hown, below_trans HBL.out hb2, by omega, by rw [HSZ.out]; omega⟩)
  clear hown hb2 HCUT HBOX HBL hg0 hg1
  go_wp2_with fail
  go_loopw [4, 6] (fun v i wr => ∃ (j : Nat) (Ar : Option Addr) (cr : Nat) (An : Option Addr) (cn : Nat) (Ab : Option Addr) (cb : Nat), j ≤ m ∧ i = .int .i64 j ∧ v = .string (bs (textOf (scrT ls j))) ∧ SpRun w (w.heap.size + 3) W4.heap.size (.slice (some ⟨g, 0, none⟩) (m + 1) c5) ((ls ++ [last]).map bs) (scrS ls j) Ar cr An cn Ab cb wr) (fun _ i _ => m - (intOf i).toNat)
  case atStart => exact ⟨0, _, _, _, _, _, _, by omega, rfl, by rw [← HS0.out], RUN.out⟩
  case round =>
    obtain ⟨j, Ar, cr, An, cn, Ab, cb, hj, rfl, rfl, hrun⟩ := hrel
    have R1 := Lib.hid hrun
    have HOK := Lib.hid (scr_ok ls j)
    clear hrun RUN HS0
    by_cases hjm : j < m
    · obtain ⟨lj, hlj⟩ : ∃ lj, ls[j]? = some lj := ⟨_, List.getElem?_eq_getElem (by rw [HM.out]; exact hjm)⟩
      have hll := HLEN.out lj (List.mem_of_getElem? hlj)
      have hgc := OwnE.cell encS_len R1.out.own (j := j) (p := bs lj) (by rw [List.getElem?_map, List.getElem?_append_left (by rw [HM.out]; exact hjm), hlj]; rfl) (i := 0) rfl
      rw [Nat.mul_one, Nat.add_zero] at hgc
      obtain ⟨wd, ws, hcw⟩ : ∃ wd ws, cutL 32 lj = wd :: ws := by
        cases h : cutL 32 lj with
        | nil => exact absurd h (cutL_ne 32 lj)
        | cons a b => exact ⟨a, b, rfl⟩
      have hn5 := cutL_short 32 lj
      obtain ⟨n5, hn5e⟩ : ∃ n5, ((wd :: ws).map bs).length = n5 := ⟨_, rfl⟩
      have hn5l : n5 ≤ 501 := by rw [← hn5e, List.length_map, ← hcw]; omega
      have HN5 := Lib.hid hn5e
      have HCW := Lib.hid (fun W => l10Cut_any 32 32 rfl (bs lj) W (by rw [bs_size]; omega))
      rw [bs_data, hcw] at HCW
      have HLN := Lib.hid (fun W (B : Option Addr) (n c : Nat) (hS : SpS W Ar cr An cn Ab cb (scrS ls j)) (hw : SlE 1 encS W B n ((wd :: ws).map bs)) (hn : n ≤ 1000) => l10Line_any Ar cr An cn Ab cb (scrS ls j) B n c wd ws W hS HOK.out hw hn)
      obtain ⟨e1, e2⟩ := ans_of (s := scrS ls j) hcw rfl
      rw [← e1, ← e2, ← scrS_next hlj, ← scrO_at hlj] at HLN
      have hb0 := HTB.out j hj
      have hb1 : (textOf (scrO ls j)).length ≤ 2000 := by
        have hO := scrO_bd ls j
        have h1 := textOf_len 200 (scrO ls j) hO.2
        have h3 : (scrO ls j).length * (200 + 1) ≤ 6 * (200 + 1) := Nat.mul_le_mul_right _ hO.1
        omega
      have ad : ∀ W, (Op.stringOp .add (bs (textOf (scrT ls j))) (bs (textOf (scrO ls j)))).run Tryz.prog W = .ok (.string (bs (textOf (scrT ls (j + 1))))) W := fun W => by
        rw [scrT, textOf_append]
        exact add_long _ _ (by omega) W
      clear e1 e2 hlj hcw hn5 hn5e hb0 hb1 HOK
      obtain ⟨s, hs⟩ : ∃ s, scrS ls j = s := ⟨_, rfl⟩
      obtain ⟨s2, hs2⟩ : ∃ s2, scrS ls (j + 1) = s2 := ⟨_, rfl⟩
      obtain ⟨TN, hTN⟩ : ∃ TN, bs (textOf (scrT ls (j + 1))) = TN := ⟨_, rfl⟩
      rw [hs] at R1
      rw [hs, hs2] at HLN
      rw [hTN] at ad
      have HS2 := Lib.hid hs2
      have HTN := Lib.hid hTN
      clear hs hs2 hTN
      generalize textOf (scrO ls j) = t2 at *
      generalize bs (textOf (scrT ls j)) = T0 at *
      have HS0 := Lib.hid (show wr.drew.cell? ⟨w.heap.size + 3, 0, none⟩ = some (.slice Ar s.roads.length cr) ∧ wr.drew.cell? ⟨w.heap.size + 3, 1, none⟩ = some (.slice An s.net.length cn) ∧ wr.drew.cell? ⟨w.heap.size + 3, 2, none⟩ = some (.slice Ab s.list.length cb) ∧ wr.drew.cell? ⟨g, j, none⟩ = some (.string (bs lj)) from ⟨R1.out.box.c0, R1.out.box.c1, R1.out.box.c2, hgc⟩)
      have j0 : (0 : Int) ≤ (j : Int) := by omega
      have j1 : (j : Int) < (m : Int) := by omega
      have j2 : (j : Int) < (m : Int) + 1 := by omega
      have j3 : j < m + 1 := by omega
      clear hgc
      go_wp2_with fail
      have BZD := Lib.hid (below_alloc (Below.refl wr.drew.heap.size wr.drew) (.cells #[.slice none 0 0, .slice none 0 0, .slice none 0 0] 66))
      have RD := Lib.hid (R1.out.below (below_drew (Below.refl _ wr)))
      have RA := Lib.hid (RD.out.below BZD.out)
      have HSA := Lib.hid (cells4_below BZD.out HS0.out)
      have NA := Lib.hid (show BoxAt (wr.drew.alloc (.cells #[.slice none 0 0, .slice none 0 0, .slice none 0 0] 66)) wr.heap.size (.slice none 0 0) (.slice none 0 0) (.slice none 0 0) from box_new wr.drew (.slice none 0 0) (.slice none 0 0) (.slice none 0 0) 66)
      have VNA := Lib.hid (show AvR wr.heap.size (wr.drew.alloc (.cells #[.slice none 0 0, .slice none 0 0, .slice none 0 0] 66)) Ar An Ab s from RD.out.sp.fresh.below BZD.out)
      have GNA := Lib.hid (show wr.heap.size ≠ w.heap.size + 3 ∧ wr.heap.size ≠ g ∧ w.heap.size ≤ wr.heap.size from ⟨Nat.ne_of_gt RD.out.box.lt, Nat.ne_of_gt (World.block_lt_of_cell? wr.drew _ HS0.out.2.2.2), RD.out.bl.size⟩)
      go_region_held3 (fun w' => w'.cell? ⟨w.heap.size + 3, 0, none⟩ = some (.slice Ar s.roads.length cr) ∧ w'.cell? ⟨w.heap.size + 3, 1, none⟩ = some (.slice An s.net.length cn) ∧ w'.cell? ⟨w.heap.size + 3, 2, none⟩ = some (.slice Ab s.list.length cb) ∧ w'.cell? ⟨g, j, none⟩ = some (.string (bs lj)))
        (first | exact HS0.out | exact HSA.out | exact CZ5.out | exact CZ5a.out | exact CZ6.out | exact CZ7.out | exact CZ8.out | fail)
        (first
          | (go_at_call 39; (with_reducible_and_instances refine (HCW.out _).mono ?_); rintro e w5 ⟨v6, rfl, hown6, hb5⟩; obtain ⟨A6, c6, rfl, hsl6, -⟩ := hown6.slc encS_len HN5.out; have HSL6 := Lib.hid hsl6; have R5 := Lib.hid (show SpRun w (w.heap.size + 3) W4.heap.size (.slice (some ⟨g, 0, none⟩) (m + 1) c5) ((ls ++ [last]).map bs) s Ar cr An cn Ab cb w5 by first | exact RD.out.below hb5 | exact RA.out.below hb5); have CZ5 := Lib.hid (show w5.cell? ⟨w.heap.size + 3, 0, none⟩ = some (.slice Ar s.roads.length cr) ∧ w5.cell? ⟨w.heap.size + 3, 1, none⟩ = some (.slice An s.net.length cn) ∧ w5.cell? ⟨w.heap.size + 3, 2, none⟩ = some (.slice Ab s.list.length cb) ∧ w5.cell? ⟨g, j, none⟩ = some (.string (bs lj)) by first | exact cells4_below hb5 HS0.out | exact cells4_below hb5 HSA.out); (first | (have N5 := Lib.hid (NA.out.below hb5); have VN5 := Lib.hid (VNA.out.below hb5); have GN5 := Lib.hid GNA.out) | (have BZ := Lib.hid (below_alloc (Below.refl w5.heap.size w5) (.cells #[.slice none 0 0, .slice none 0 0, .slice none 0 0] 66)); have R5a := Lib.hid (R5.out.below BZ.out); have CZ5a := Lib.hid (cells4_below BZ.out CZ5.out); have SL5a := Lib.hid (hsl6.below BZ.out); have N5a := Lib.hid (box_new w5 (.slice none 0 0) (.slice none 0 0) (.slice none 0 0) 66); have VN5a := Lib.hid (R5.out.sp.fresh.below BZ.out); have GN5a := Lib.hid (show w5.heap.size ≠ w.heap.size + 3 ∧ w5.heap.size ≠ g ∧ w.heap.size ≤ w5.heap.size from ⟨Nat.ne_of_gt R5.out.box.lt, Nat.ne_of_gt (World.block_lt_of_cell? w5 _ CZ5.out.2.2.2), R5.out.bl.size⟩))); clear hown6 hsl6 hb5)
          | (go_at_call 40; (first | (with_reducible_and_instances refine (HLN.out _ A6 n5 c6 R5.out.sp HSL6.out (Nat.le_trans hn5l (by decide))).mono ?_) | (with_reducible_and_instances refine (HLN.out _ A6 n5 c6 R5a.out.sp SL5a.out (Nat.le_trans hn5l (by decide))).mono ?_)); rintro e w6 ⟨hb6, Ar2, cr2, An2, cn2, Ab2, cb2, rfl, hsp6, hav6⟩; have SP6 := Lib.hid hsp6; have CZ6 := Lib.hid (show w6.cell? ⟨w.heap.size + 3, 0, none⟩ = some (.slice Ar s.roads.length cr) ∧ w6.cell? ⟨w.heap.size + 3, 1, none⟩ = some (.slice An s.net.length cn) ∧ w6.cell? ⟨w.heap.size + 3, 2, none⟩ = some (.slice Ab s.list.length cb) ∧ w6.cell? ⟨g, j, none⟩ = some (.string (bs lj)) by first | exact cells4_below hb6 CZ5.out | exact cells4_below hb6 CZ5a.out); have AV6 := Lib.hid (show AvR (w.heap.size + 3) w6 Ar2 An2 Ab2 s2 by first | exact hav6 (w.heap.size + 3) R5.out.box.lt R5.out.av | exact hav6 (w.heap.size + 3) R5a.out.box.lt R5a.out.av); have OW6 := Lib.hid (show OwnE 1 encS 9 W4.heap.size w6 (.slice (some ⟨g, 0, none⟩) (m + 1) c5) ((ls ++ [last]).map bs) by first | exact OwnE.below R5.out.own hb6 (Nat.le_refl _) | exact OwnE.below R5a.out.own hb6 (Nat.le_refl _)); have Q6 := Lib.hid (show BoxAt w6 (w.heap.size + 3) (.slice Ar s.roads.length cr) (.slice An s.net.length cn) (.slice Ab s.list.length cb) by first | exact R5.out.box.below hb6 | exact R5a.out.box.below hb6); have BL6 := Lib.hid (show Below w.heap.size w w6 by first | exact below_trans R5.out.bl hb6 | exact below_trans R5a.out.bl hb6); (first | (have N6 := Lib.hid (N5.out.below hb6); have VN6 := Lib.hid (hav6 _ N5.out.lt VN5.out); have FB := Lib.hid (fin_put Q6.out N6.out hsp6 AV6.out VN6.out OW6.out (fun e => GN5.out.2.1 (Option.some.inj e).symm) BL6.out R5.out.rb R5.out.lt GN5.out.2.2 GN5.out.1); have CZ8 := Lib.hid (cells4_sets CZ6.out GN5.out.1 GN5.out.2.1 (.slice Ar2 s2.roads.length cr2) (.slice An2 s2.net.length cn2) (.slice Ab2 s2.list.length cb2)); obtain ⟨z0, z1, z2, zf, -⟩ := N6.out) | (have N6 := Lib.hid (N5a.out.below hb6); have VN6 := Lib.hid (hav6 _ N5a.out.lt VN5a.out); have FB := Lib.hid (fin_put Q6.out N6.out hsp6 AV6.out VN6.out OW6.out (fun e => GN5a.out.2.1 (Option.some.inj e).symm) BL6.out R5.out.rb R5.out.lt GN5a.out.2.2 GN5a.out.1); have CZ8 := Lib.hid (cells4_sets CZ6.out GN5a.out.1 GN5a.out.2.1 (.slice Ar2 s2.roads.length cr2) (.slice An2 s2.net.length cn2) (.slice Ab2 s2.list.length cb2)); obtain ⟨z0, z1, z2, zf, -⟩ := N6.out) | (have FB := Lib.hid (fin_alloc Q6.out hsp6 AV6.out OW6.out BL6.out R5.out.rb R5.out.lt); have CZ7 := Lib.hid (cells4_below (below_alloc (Below.refl w6.heap.size w6) (.cells #[.slice Ar2 s2.roads.length cr2, .slice An2 s2.net.length cn2, .slice Ab2 s2.list.length cb2] 66)) CZ6.out); have CZ8 := Lib.hid (cells4_below (below_alloc (Below.refl w6.heap.size w6) (.cells #[.slice none 0 0, .slice none 0 0, .slice none 0 0] 66)) CZ6.out))); clear hb6 hsp6 hav6)
          | fail)
      all_goals
        have F := Lib.hid FB.out.run
        obtain ⟨b0, b1, b2, bf, -⟩ := FB.out.qb
        obtain ⟨n0, n1, n2, -, -⟩ := FB.out.nb
        go_wp2_with fail
        go_roundw
        case rel => exact ⟨j + 1, Ar2, cr2, An2, cn2, Ab2, cb2, by omega, by go_num, by rw [HTN.out], by rw [HS2.out]; exact F.out⟩
        case measure => simp [intOf]; omega
    · obtain rfl : j = m := by omega
      have h16 := HOK.out.1.2.2.1
      have h6 := HOK.out.2.1.2.2.1
      have hb16 := HOK.out.2.2.2.2.1
      have hfm := script_form ls
      rw [HM.out] at hfm
      have HFM := Lib.hid hfm
      have hO := HTB.out j (Nat.le_refl _)
      have HBX := Lib.hid R1.out.box
      have BL := Lib.hid R1.out.bl
      clear hfm R1 HTB HLEN HOK
      obtain ⟨OUT, hOUT⟩ : ∃ OUT, textOf (scrT ls j) = OUT := ⟨_, rfl⟩
      rw [hOUT] at HFM hO ⊢
      clear hOUT
      obtain ⟨a, ha⟩ : ∃ a, (scrS ls j).roads.length = a := ⟨_, rfl⟩
      obtain ⟨b, hb⟩ : ∃ b, (scrS ls j).net.length = b := ⟨_, rfl⟩
      obtain ⟨c, hc⟩ : ∃ c, (scrS ls j).list.length = c := ⟨_, rfl⟩
      rw [ha, hb, hc] at HFM HBX
      rw [ha] at h16
      rw [hb] at h6
      rw [hc] at hb16
      clear ha hb hc
      have la := decDigits_len 2 a (by omega) (by omega)
      have lb := decDigits_len 2 b (by omega) (by omega)
      have lc := decDigits_len 2 c (by omega) (by omega)
      have HD1 := Lib.hid (fun W => l6Dec_any a W (by omega))
      have HD2 := Lib.hid (fun W => l6Dec_any b W (by omega))
      have HD3 := Lib.hid (fun W => l6Dec_any c W (by omega))
      have ad1 : ∀ W, (Op.stringOp .add (bs (OUT)) ⟨#[114, 111, 97, 100, 115, 32]⟩).run Tryz.prog W = .ok (.string (bs (OUT ++ [114, 111, 97, 100, 115, 32]))) W := add_long (OUT) ([114, 111, 97, 100, 115, 32]) (by simp only [List.length_cons, List.length_nil]; omega)
      have ad2 : ∀ W, (Op.stringOp .add (bs (OUT ++ [114, 111, 97, 100, 115, 32])) (bs (Lib.decDigits a))).run Tryz.prog W = .ok (.string (bs (OUT ++ [114, 111, 97, 100, 115, 32] ++ Lib.decDigits a))) W := add_long (OUT ++ [114, 111, 97, 100, 115, 32]) (Lib.decDigits a) (by simp only [List.length_append, List.length_cons, List.length_nil]; omega)
      have ad3 : ∀ W, (Op.stringOp .add (bs (OUT ++ [114, 111, 97, 100, 115, 32] ++ Lib.decDigits a)) ⟨#[32, 99, 111, 97, 99, 104, 101, 115, 32]⟩).run Tryz.prog W = .ok (.string (bs (OUT ++ [114, 111, 97, 100, 115, 32] ++ Lib.decDigits a ++ [32, 99, 111, 97, 99, 104, 101, 115, 32]))) W := add_long (OUT ++ [114, 111, 97, 100, 115, 32] ++ Lib.decDigits a) ([32, 99, 111, 97, 99, 104, 101, 115, 32]) (by simp only [List.length_append, List.length_cons, List.length_nil]; omega)
      have ad4 : ∀ W, (Op.stringOp .add (bs (OUT ++ [114, 111, 97, 100, 115, 32] ++ Lib.decDigits a ++ [32, 99, 111, 97, 99, 104, 101, 115, 32])) (bs (Lib.decDigits b))).run Tryz.prog W = .ok (.string (bs (OUT ++ [114, 111, 97, 100, 115, 32] ++ Lib.decDigits a ++ [32, 99, 111, 97, 99, 104, 101, 115, 32] ++ Lib.decDigits b))) W := add_long (OUT ++ [114, 111, 97, 100, 115, 32] ++ Lib.decDigits a ++ [32, 99, 111, 97, 99, 104, 101, 115, 32]) (Lib.decDigits b) (by simp only [List.length_append, List.length_cons, List.length_nil]; omega)
      have ad5 : ∀ W, (Op.stringOp .add (bs (OUT ++ [114, 111, 97, 100, 115, 32] ++ Lib.decDigits a ++ [32, 99, 111, 97, 99, 104, 101, 115, 32] ++ Lib.decDigits b)) ⟨#[32, 98, 111, 111, 107, 105, 110, 103, 115, 32]⟩).run Tryz.prog W = .ok (.string (bs (OUT ++ [114, 111, 97, 100, 115, 32] ++ Lib.decDigits a ++ [32, 99, 111, 97, 99, 104, 101, 115, 32] ++ Lib.decDigits b ++ [32, 98, 111, 111, 107, 105, 110, 103, 115, 32]))) W := add_long (OUT ++ [114, 111, 97, 100, 115, 32] ++ Lib.decDigits a ++ [32, 99, 111, 97, 99, 104, 101, 115, 32] ++ Lib.decDigits b) ([32, 98, 111, 111, 107, 105, 110, 103, 115, 32]) (by simp only [List.length_append, List.length_cons, List.length_nil]; omega)
      have ad6 : ∀ W, (Op.stringOp .add (bs (OUT ++ [114, 111, 97, 100, 115, 32] ++ Lib.decDigits a ++ [32, 99, 111, 97, 99, 104, 101, 115, 32] ++ Lib.decDigits b ++ [32, 98, 111, 111, 107, 105, 110, 103, 115, 32])) (bs (Lib.decDigits c))).run Tryz.prog W = .ok (.string (bs (OUT ++ [114, 111, 97, 100, 115, 32] ++ Lib.decDigits a ++ [32, 99, 111, 97, 99, 104, 101, 115, 32] ++ Lib.decDigits b ++ [32, 98, 111, 111, 107, 105, 110, 103, 115, 32] ++ Lib.decDigits c))) W := add_long (OUT ++ [114, 111, 97, 100, 115, 32] ++ Lib.decDigits a ++ [32, 99, 111, 97, 99, 104, 101, 115, 32] ++ Lib.decDigits b ++ [32, 98, 111, 111, 107, 105, 110, 103, 115, 32]) (Lib.decDigits c) (by simp only [List.length_append, List.length_cons, List.length_nil]; omega)
      have ad7 : ∀ W, (Op.stringOp .add (bs (OUT ++ [114, 111, 97, 100, 115, 32] ++ Lib.decDigits a ++ [32, 99, 111, 97, 99, 104, 101, 115, 32] ++ Lib.decDigits b ++ [32, 98, 111, 111, 107, 105, 110, 103, 115, 32] ++ Lib.decDigits c)) ⟨#[10]⟩).run Tryz.prog W = .ok (.string (bs (OUT ++ [114, 111, 97, 100, 115, 32] ++ Lib.decDigits a ++ [32, 99, 111, 97, 99, 104, 101, 115, 32] ++ Lib.decDigits b ++ [32, 98, 111, 111, 107, 105, 110, 103, 115, 32] ++ Lib.decDigits c ++ [10]))) W := add_long (OUT ++ [114, 111, 97, 100, 115, 32] ++ Lib.decDigits a ++ [32, 99, 111, 97, 99, 104, 101, 115, 32] ++ Lib.decDigits b ++ [32, 98, 111, 111, 107, 105, 110, 103, 115, 32] ++ Lib.decDigits c) ([10]) (by simp only [List.length_append, List.length_cons, List.length_nil]; omega)
      have HFIN := Lib.hid (show OUT ++ [114, 111, 97, 100, 115, 32] ++ Lib.decDigits a ++ [32, 99, 111, 97, 99, 104, 101, 115, 32] ++ Lib.decDigits b ++ [32, 98, 111, 111, 107, 105, 110, 103, 115, 32] ++ Lib.decDigits c ++ [10] = scriptOut ls by rw [HFM.out]; unfold endL; simp only [List.append_assoc])
      have HS0 := Lib.hid (show wr.drew.cell? ⟨w.heap.size + 3, 0, none⟩ = some (.slice Ar a cr) ∧ wr.drew.cell? ⟨w.heap.size + 3, 1, none⟩ = some (.slice An b cn) ∧ wr.drew.cell? ⟨w.heap.size + 3, 2, none⟩ = some (.slice Ab c cb) from ⟨HBX.out.c0, HBX.out.c1, HBX.out.c2⟩)
      have B1 := Lib.hid (below_drew (Below.refl wr.heap.size wr))
      rw [HFIN.out] at ad7
      clear la lb lc hO h16 h6 hb16 HFM HFIN
      generalize hTF : bs (scriptOut ls) = TF at *
      clear hTF
      generalize bs (OUT ++ [114, 111, 97, 100, 115, 32] ++ Lib.decDigits a ++ [32, 99, 111, 97, 99, 104, 101, 115, 32] ++ Lib.decDigits b ++ [32, 98, 111, 111, 107, 105, 110, 103, 115, 32] ++ Lib.decDigits c) = T5 at *
      generalize bs (OUT ++ [114, 111, 97, 100, 115, 32] ++ Lib.decDigits a ++ [32, 99, 111, 97, 99, 104, 101, 115, 32] ++ Lib.decDigits b ++ [32, 98, 111, 111, 107, 105, 110, 103, 115, 32]) = T4 at *
      generalize bs (OUT ++ [114, 111, 97, 100, 115, 32] ++ Lib.decDigits a ++ [32, 99, 111, 97, 99, 104, 101, 115, 32] ++ Lib.decDigits b) = T3 at *
      generalize bs (OUT ++ [114, 111, 97, 100, 115, 32] ++ Lib.decDigits a ++ [32, 99, 111, 97, 99, 104, 101, 115, 32]) = T2 at *
      generalize bs (OUT ++ [114, 111, 97, 100, 115, 32] ++ Lib.decDigits a) = T1 at *
      generalize bs (OUT ++ [114, 111, 97, 100, 115, 32]) = T0 at *
      generalize bs OUT = TO at *
      generalize bs (Lib.decDigits a) = D1 at *
      generalize bs (Lib.decDigits b) = D2 at *
      generalize bs (Lib.decDigits c) = D3 at *
      go_wp2_with fail
      go_region_held3 (fun w' => w'.cell? ⟨w.heap.size + 3, 0, none⟩ = some (.slice Ar a cr) ∧ w'.cell? ⟨w.heap.size + 3, 1, none⟩ = some (.slice An b cn) ∧ w'.cell? ⟨w.heap.size + 3, 2, none⟩ = some (.slice Ab c cb))
        (first | exact HS0.out | exact CZ2.out | exact CZ3.out | exact CZ4.out | fail)
        (first
          | (go_at_call 41; have HQ := HB3; (with_reducible_and_instances refine (HD3.out _).mono ?_); rintro e w4 ⟨rfl, hb4⟩; have HB4 := Lib.hid (below_trans HB3.out hb4); have CZ4 := Lib.hid (cells3_below hb4 CZ3.out); clear hb4)
          | (go_at_call 41; have HQ := HBQ; (with_reducible_and_instances refine (HD2.out _).mono ?_); rintro e w3 ⟨rfl, hb3⟩; have HB3 := Lib.hid (below_trans HBQ.out hb3); have CZ3 := Lib.hid (cells3_below hb3 CZ2.out); clear hb3)
          | (go_at_call 41; (with_reducible_and_instances refine (HD1.out _).mono ?_); rintro e w2 ⟨rfl, hb2⟩; have HBQ := Lib.hid (below_trans B1.out hb2); have CZ2 := Lib.hid (cells3_below hb2 HS0.out); clear hb2)
          | fail)
      go_wp2_with fail
      go_ret
      exact ⟨rfl, BL.out.trans (HB4.out.mono BL.out.size)⟩
set_option maxRecDepth 20000 in
theorem specExecute_long (s : ByteArray) (w : World) (hs : 500 < s.size) :
    Calls Tryz.prog 12 #[.string s] w (Only (.string (bs longL)) w) := by
  have i0 : 500 < (s.size : Int) := by omega
  go_enter Tryz.func12, Tryz.ntmps12
  go_wp2_with fail
  go_ret
  exact ⟨rfl, Below.refl _ _⟩
/-- What a text gives: the same in the program and in the reference. -/
noncomputable def execL (s : ByteArray) : List UInt8 := if 500 < s.size then longL else scriptOut (cutL 10 s.data.toList).dropLast
theorem cut_last (l : List UInt8) : ∃ last, cutL 10 l = (cutL 10 l).dropLast ++ [last] := ⟨_, (List.dropLast_concat_getLast (cutL_ne 10 l)).symm⟩
theorem implExec (s : ByteArray) (w : World) (hE : Env w) : Calls Tryz.prog 11 #[.string s] w (Only (.string (bs (execL s))) w) := by
  unfold execL
  by_cases h : 500 < s.size
  · rw [if_pos h]
    exact implExecute_long s w h
  · rw [if_neg h]
    obtain ⟨last, hl⟩ := cut_last s.data.toList
    exact implExecute_any s _ last w hE (by omega) hl
theorem specExec (s : ByteArray) (w : World) : Calls Tryz.prog 12 #[.string s] w (Only (.string (bs (execL s))) w) := by
  unfold execL
  by_cases h : 500 < s.size
  · rw [if_pos h]
    exact specExecute_long s w h
  · rw [if_neg h]
    obtain ⟨last, hl⟩ := cut_last s.data.toList
    exact specExecute_any s _ last w (by omega) hl
end Go.Proofs.YtgjllminidlolaaGreatDoor
/- Contracts: the text up to its last newline, the last line of an output. Plain: what scripts of more lines give. -/
set_option linter.unusedVariables false
namespace Go.Proofs.YtgjllminidlolaaGreatDoor
open Go.RowKit

theorem exec_part {s : ByteArray} {ls : List (List UInt8)} {last : List UInt8} (hs : s.size ≤ 500) (h : cutL 10 s.data.toList = ls ++ [last]) : execL s = scriptOut ls := by
  unfold execL
  rw [if_neg (by omega), h, List.dropLast_concat]
theorem exec_lines {ls : List (List UInt8)} (h : ∀ l ∈ ls, (10 : UInt8) ∉ l) (hs : (textOf ls).length ≤ 500) : execL (bs (textOf ls)) = scriptOut ls :=
  exec_part (by rw [bs_size]; exact hs) (by rw [bs_data]; exact cutL_text ls h)
theorem exec_long {s : ByteArray} (hs : 500 < s.size) : bs (execL s) = ⟨#[116, 111, 111, 32, 108, 111, 110, 103, 10]⟩ := by
  unfold execL
  rw [if_pos hs]
  rfl
theorem exec_nil : bs (execL ⟨#[]⟩) = ⟨#[114, 111, 97, 100, 115, 32, 48, 32, 99, 111, 97, 99, 104, 101, 115, 32, 48, 32, 98, 111, 111, 107, 105, 110, 103, 115, 32, 48, 10]⟩ := by
  rw [exec_part (s := ⟨#[]⟩) (ls := []) (last := []) (by decide) rfl, script_form]
  simp [scrT, scrS, textOf, endL, Lib.decDigits, bs]
theorem script_ne (ls : List (List UInt8)) : scriptOut ls ≠ [] := by
  rw [script_form]
  simp
theorem bytes_ne {l : List UInt8} (h : l ≠ []) : (bs l == (⟨#[]⟩ : ByteArray)) = false := by
  cases h1 : (bs l == (⟨#[]⟩ : ByteArray)) with
  | false => rfl
  | true =>
    have h2 := (MapKept.bytes_beq _ _).1 h1
    exact absurd (show l = [] from congrArg (fun s : ByteArray => s.data.toList) h2) h

/-! ### More lines -/
/-- The parts of an output: the answers, the last line. -/
noncomputable def headL (ls : List (List UInt8)) : List UInt8 := textOf (scrT ls ls.length)
noncomputable def tailL (ls : List (List UInt8)) : List UInt8 := endL (scrS ls ls.length).roads.length (scrS ls ls.length).net.length (scrS ls ls.length).list.length ++ [10]
noncomputable def seatsO (ls : List (List UInt8)) : List UInt8 := spacedL (plan (scrS ls ls.length).list 5) ++ [10]
theorem script_two (ls : List (List UInt8)) : scriptOut ls = headL ls ++ tailL ls := script_form ls
def whatF (m : List UInt8) : List (List UInt8) := if m = zzzL then [whatL] else [noL]
theorem script_what (ls : List (List UInt8)) : scriptOut (ls ++ [zzzL, wrongL]) = headL ls ++ [119, 104, 97, 116, 10, 110, 111, 10] ++ tailL ls := by
  rw [script_still (f := whatF) (fun m hm => ?_), textOf_append]
  · have e : ([zzzL, wrongL].flatMap whatF) = [whatL, noL] := by decide
    rw [e]
    rfl
  · rcases List.mem_cons.1 hm with rfl | hm
    · have h := step_zzz (scrS ls ls.length)
      exact ⟨h.1, by rw [h.2]; rfl⟩
    · obtain rfl := List.mem_singleton.1 hm
      have h := step_wrong (scrS ls ls.length)
      exact ⟨h.1, by rw [h.2]; rfl⟩
theorem script_once (ls : List (List UInt8)) : scriptOut (ls ++ [seatsL]) = headL ls ++ seatsO ls ++ tailL ls := by
  rw [script_still (f := fun _ => [spacedL (plan (scrS ls ls.length).list 5)]) (fun m hm => by rw [List.mem_singleton.1 hm]; exact step_seats (scr_ok ls _)), textOf_append]
  simp [textOf, headL, tailL, seatsO]
theorem script_twice (ls : List (List UInt8)) : scriptOut (ls ++ [seatsL, seatsL]) = headL ls ++ seatsO ls ++ seatsO ls ++ tailL ls := by
  rw [script_still (f := fun _ => [spacedL (plan (scrS ls ls.length).list 5)]) (fun m hm => by
    have e : m = seatsL := by simpa using hm
    rw [e]
    exact step_seats (scr_ok ls _)), textOf_append]
  simp [textOf, headL, tailL, seatsO]
theorem lines_app {ls ms : List (List UInt8)} (h : ∀ l ∈ ls, (10 : UInt8) ∉ l) (hm : ∀ l ∈ ms, (10 : UInt8) ∉ l) : ∀ l ∈ ls ++ ms, (10 : UInt8) ∉ l := fun l hl => by
  rcases List.mem_append.1 hl with hl | hl
  · exact h l hl
  · exact hm l hl
theorem what_text (ls : List (List UInt8)) : textOf (ls ++ [zzzL, wrongL]) = textOf ls ++ [122, 122, 122, 10, 114, 111, 97, 100, 32, 49, 32, 49, 32, 53, 10] := by
  rw [textOf_append]
  rfl
theorem once_text (ls : List (List UInt8)) : textOf (ls ++ [seatsL]) = textOf ls ++ [115, 101, 97, 116, 115, 10] := by
  rw [textOf_append]
  rfl
theorem twice_text (ls : List (List UInt8)) : textOf (ls ++ [seatsL, seatsL]) = textOf ls ++ [115, 101, 97, 116, 115, 10, 115, 101, 97, 116, 115, 10] := by
  rw [textOf_append]
  rfl
theorem lines_few {ls : List (List UInt8)} : ls.length ≤ (textOf ls).length := by
  induction ls with
  | nil => simp
  | cons l ls ih =>
    have e : textOf (l :: ls) = l ++ [10] ++ textOf ls := by simp [textOf]
    rw [e, List.length_append, List.length_append, List.length_cons, List.length_singleton]
    omega
theorem extract_left (x y : List UInt8) : (bs (x ++ y)).extract 0 x.length = bs x := by
  rw [extract_bs, bs_data]
  simp
theorem extract_mid (x y z : List UInt8) : (bs (x ++ y ++ z)).extract x.length (x ++ y).length = bs y := by
  rw [extract_bs, bs_data]
  simp
theorem extract_first (s : ByteArray) (n : Nat) : s.extract 0 n = bs (s.data.toList.take n) := by
  rw [extract_bs]
  simp
theorem extract_rest (s : ByteArray) (n : Nat) : s.extract n s.size = bs (s.data.toList.drop n) := by
  rw [extract_bs]
  rw [List.take_of_length_le (by simp)]

set_option maxRecDepth 20000 in
set_option maxHeartbeats 3200000 in
theorem complete_any (s : ByteArray) (ls : List (List UInt8)) (last : List UInt8) (w : World) (hs : s.size ≤ 100000000) (h : s.data.toList = textOf ls ++ last) (h10 : (10 : UInt8) ∉ last) :
    Calls Tryz.prog 13 #[.string s] w (Only (.string (bs (textOf ls))) w) := by
  have HF := Lib.hid (And.intro h h10)
  have HN0 := Lib.hid (show ∀ k : Nat, (s.size : Int) ≤ k → s.data.toList[k]? ≠ some 10 from fun k hk => by rw [List.getElem?_eq_none (by simp; omega)]; simp)
  clear h h10
  go_enter Tryz.func13, Tryz.ntmps13
  go_wp2_with fail
  go_loop [3] (fun i => ∃ z : Int, 0 ≤ z ∧ z ≤ s.size ∧ i = .int .i64 z ∧ ∀ k : Nat, z ≤ k → s.data.toList[k]? ≠ some 10) (fun i => (intOf i).toNat)
  case atStart => exact ⟨s.size, by omega, Int.le_refl _, rfl, HN0.out⟩
  case round =>
    obtain ⟨z, hz0, hz1, rfl, hno⟩ := hrel
    have HNO := Lib.hid hno
    clear hno
    by_cases hz : 0 < z
    rotate_left
    · obtain rfl : z = 0 := by omega
      have HZ := Lib.hid (complete_none HF.out.1 (fun k => HNO.out k (by omega)))
      go_wp2_with fail
      go_ret
      exact ⟨by rw [HZ.out]; rfl, Below.refl _ _⟩
    obtain ⟨i, hi⟩ : ∃ i : Nat, z = (i : Int) + 1 := ⟨(z - 1).toNat, by omega⟩
    have his : i < s.size := by omega
    obtain ⟨b, hsj⟩ : ∃ b, s[i]'his = b := ⟨_, rfl⟩
    have hlj := at_byte s his
    rw [hsj] at hlj
    have HLJ := Lib.hid hlj
    obtain ⟨bn, hbn⟩ : ∃ bn : Nat, b.toNat = bn := ⟨_, rfl⟩
    have wz : IntKind.i64.wrap (z - 1) = (i : Int) := by rw [IntWalk.i64_in _ (by omega)]; omega
    have i0 : (0 : Int) ≤ (i : Int) := by omega
    have i1 : (i : Int) < (s.size : Int) := by omega
    have HI := Lib.hid hi
    clear hlj hi
    by_cases hb : b = 10
    · have dn : ((bn : Int) == 10) = true := by rw [← hbn, hb]; rfl
      have HC := Lib.hid (complete_at HF.out.1 HF.out.2 (i := i) (by rw [HLJ.out, hb]) (fun k hk => HNO.out k (by have := HI.out; omega)))
      have HX := Lib.hid (extract_first s (i + 1))
      have hzn : z.toNat = i + 1 := by have := HI.out; omega
      clear hb
      go_wp2_with fail
      go_ret
      exact ⟨by rw [← HC.out, ← HX.out]; rfl, Below.refl _ _⟩
    · have dn : ((bn : Int) == 10) = false := by
        rw [← hbn]
        simp only [beq_eq_false_iff_ne, ne_eq]
        intro h
        exact hb (UInt8.toNat_inj.1 (by simp; omega))
      have HN := Lib.hid (show ∀ k : Nat, (i : Int) ≤ k → s.data.toList[k]? ≠ some 10 from fun k hk => by
        by_cases hki : k = i
        · rw [hki, HLJ.out]
          intro h
          injection h with h
          exact hb h
        · exact HNO.out k (by have := HI.out; omega))
      clear hb
      go_wp2_with fail
      go_round
      case rel => exact ⟨i, by omega, by omega, rfl, HN.out⟩
      case measure => simp [intOf]; have := HI.out; omega
set_option maxRecDepth 20000 in
set_option maxHeartbeats 3200000 in
theorem lastLine_any (s : ByteArray) (os : List (List UInt8)) (e : List UInt8) (w : World) (hs : s.size ≤ 100000000) (h : s.data.toList = textOf os ++ (e ++ [10])) (h10 : (10 : UInt8) ∉ e) :
    Calls Tryz.prog 14 #[.string s] w (Only (.string (bs (e ++ [10]))) w) := by
  have HF := Lib.hid (And.intro h h10)
  have hsz : s.size = s.data.toList.length := by simp
  have h1 : 1 ≤ s.size := by rw [hsz, h]; simp; omega
  have HSZ := Lib.hid hsz
  have w0 : IntKind.i64.wrap ((s.size : Int) - 2) = (s.size : Int) - 2 := IntWalk.i64_in _ (by omega)
  clear h h10 hsz
  go_enter Tryz.func14, Tryz.ntmps14
  go_wp2_with fail
  go_loop [3] (fun i => ∃ z : Int, -1 ≤ z ∧ z + 2 ≤ s.size ∧ i = .int .i64 z ∧ ∀ k : Nat, z < k → k + 1 < s.size → s.data.toList[k]? ≠ some 10) (fun i => (intOf i + 1).toNat)
  case atStart => exact ⟨(s.size : Int) - 2, by omega, by omega, by go_num, fun k h1 h2 => by omega⟩
  case round =>
    obtain ⟨z, hz0, hz1, rfl, hno⟩ := hrel
    have HNO := Lib.hid hno
    clear hno w0
    by_cases hz : 0 ≤ z
    rotate_left
    · obtain rfl : z = -1 := by omega
      have HZ := Lib.hid (lastL_none HF.out.1 (fun k hk => HNO.out k (by omega) (by rw [HSZ.out]; exact hk)))
      go_wp2_with fail
      go_ret
      exact ⟨by rw [← HZ.out]; rfl, Below.refl _ _⟩
    obtain ⟨i, rfl⟩ : ∃ i : Nat, z = i := ⟨z.toNat, by omega⟩
    have his : i < s.size := by omega
    have his2 : i + 1 < s.size := by omega
    obtain ⟨b, hsj⟩ : ∃ b, s[i]'his = b := ⟨_, rfl⟩
    have hlj := at_byte s his
    rw [hsj] at hlj
    have HLJ := Lib.hid hlj
    obtain ⟨bn, hbn⟩ : ∃ bn : Nat, b.toNat = bn := ⟨_, rfl⟩
    have i0 : (0 : Int) ≤ (i : Int) := by omega
    have i1 : (i : Int) < (s.size : Int) := by omega
    clear hlj
    by_cases hb : b = 10
    · have dn : ((bn : Int) == 10) = true := by rw [← hbn, hb]; rfl
      have HC := Lib.hid (lastL_at HF.out.1 HF.out.2 (i := i) (by rw [← HSZ.out]; omega) (by rw [HLJ.out, hb]) (fun k hk hk2 => HNO.out k (by omega) (by rw [HSZ.out]; exact hk2)))
      have HX := Lib.hid (extract_rest s (i + 1))
      obtain ⟨j, hj⟩ : ∃ j : Nat, i + 1 = j := ⟨_, rfl⟩
      have wj : IntKind.i64.wrap ((i : Int) + 1) = (j : Int) := by rw [IntWalk.i64_in _ (by omega)]; omega
      rw [hj] at HC HX
      have j0 : (0 : Int) ≤ (j : Int) := by omega
      have j1 : (j : Int) ≤ (s.size : Int) := by omega
      clear hb hj
      go_wp2_with fail
      go_ret
      exact ⟨by rw [← HC.out, ← HX.out]; rfl, Below.refl _ _⟩
    · have dn : ((bn : Int) == 10) = false := by
        rw [← hbn]
        simp only [beq_eq_false_iff_ne, ne_eq]
        intro h
        exact hb (UInt8.toNat_inj.1 (by simp; omega))
      have wz : IntKind.i64.wrap ((i : Int) - 1) = (i : Int) - 1 := IntWalk.i64_in _ (by omega)
      have HN := Lib.hid (show ∀ k : Nat, (i : Int) - 1 < k → k + 1 < s.size → s.data.toList[k]? ≠ some 10 from fun k hk hk2 => by
        by_cases hki : k = i
        · rw [hki, HLJ.out]
          intro h
          injection h with h
          exact hb h
        · exact HNO.out k (by omega) hk2)
      clear hb
      go_wp2_with fail
      go_round
      case rel => exact ⟨(i : Int) - 1, by omega, by omega, by go_num, HN.out⟩
      case measure => simp [intOf]
end Go.Proofs.YtgjllminidlolaaGreatDoor
