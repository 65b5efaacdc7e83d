/- Contracts: the commands of a script on coaches and on letters. -/
import Derived.Test.YtgjllminidlolaaGreatDoorMAP
import Derived.Test.YtgjllminidlolaaGreatDoorMQPWalkF
import Derived.Test.YtgjllminidlolaaGreatDoorMQPWalkI
set_option linter.unusedVariables false
namespace Go.Proofs.YtgjllminidlolaaGreatDoor
open Go.RowKit

theorem tripL_len : ∀ ns : List Int, (tripL ns).length = ns.length / 3
  | a :: b :: c :: r => by
    rw [tripL, List.length_cons, tripL_len r]
    simp only [List.length_cons]
    omega
  | [] => by simp [tripL]
  | [_] => by simp [tripL]
  | [_, _] => by simp [tripL]
theorem tripL_at : ∀ (j : Nat) (ns : List Int) (x y z : Int), ns[3 * j]? = some x → ns[3 * j + 1]? = some y → ns[3 * j + 2]? = some z → (tripL ns)[j]? = some ⟨x, y, z⟩
  | j, [], _, _, _, h, _, _ => by cases h
  | j, [_], _, _, _, _, h, _ => by
    rw [List.getElem?_cons_succ] at h
    cases h
  | j, [_, _], _, _, _, _, _, h => by
    rw [List.getElem?_cons_succ, List.getElem?_cons_succ] at h
    cases h
  | 0, a :: b :: c :: r, x, y, z, h1, h2, h3 => by
    injection h1 with h1
    injection h2 with h2
    injection h3 with h3
    subst h1 h2 h3
    rfl
  | j + 1, a :: b :: c :: r, x, y, z, h1, h2, h3 => by
    rw [show 3 * (j + 1) = 3 * j + 1 + 1 + 1 by omega] at h1
    rw [show 3 * (j + 1) + 1 = 3 * j + 1 + 1 + 1 + 1 by omega] at h2
    rw [show 3 * (j + 1) + 2 = 3 * j + 2 + 1 + 1 + 1 by omega] at h3
    simp only [List.getElem?_cons_succ] at h1 h2 h3
    rw [tripL, List.getElem?_cons_succ]
    exact tripL_at j r x y z h1 h2 h3
/-- Three numbers of a row. -/
theorem trip_at {w : World} {A : Option Addr} {n : Nat} {ns : List Int} (h : SlE 1 encI w A n ns) {q j : Nat} (hq : q = 3 * j) (hj : q + 2 < n) :
    ∃ b off x y z, A = some ⟨b, off, none⟩ ∧ (tripL ns)[j]? = some ⟨x, y, z⟩ ∧ w.cell? ⟨b, off + q, none⟩ = some (.int .i64 x) ∧ w.cell? ⟨b, off + (q + 1), none⟩ = some (.int .i64 y) ∧ w.cell? ⟨b, off + (q + 2), none⟩ = some (.int .i64 z) := by
  subst hq
  obtain ⟨b, off, x, rfl, hbl, hx, -, g0⟩ := at1 h (Below.refl _ _) (show 3 * j < n by omega)
  obtain ⟨b1, off1, y, hA, -, hy, -, g1⟩ := at1 h (Below.refl _ _) (show 3 * j + 1 < n by omega)
  obtain ⟨b2, off2, z, hA2, -, hz, -, g2⟩ := at1 h (Below.refl _ _) hj
  simp only [Option.some.injEq, Addr.mk.injEq, and_true] at hA hA2
  obtain ⟨rfl, rfl⟩ := hA
  obtain ⟨rfl, rfl⟩ := hA2
  exact ⟨b, off, x, y, z, rfl, tripL_at j ns x y z hx hy hz, g0, g1, g2⟩
/-- The coaches of a state in memory. -/
theorem St.netAt {w0 W : World} {R : Nat} {s : LSt} {av : Nat → Prop} (h : St w0 R s av W) :
    ∃ A c, W.cell? ⟨R, 1, none⟩ = some (.slice A s.net.length c) ∧ W.frozen? ⟨R, 1, none⟩ = false ∧ NetS W A s.net.length s.net ∧ s.net.length ≤ c ∧ R < W.heap.size := by
  obtain ⟨h1, h2, h3, h4, vr, vc, vb, ⟨o1, o2, o3, o4⟩, ⟨hv, _⟩, ⟨vs, n1, n2, n3, n4⟩, hb1, hb2⟩ := h
  obtain ⟨A, c, rfl, hs, hc⟩ := n1.slc encV_len n3
  refine ⟨A, c, o2, o4 1, ⟨vs, hs, n3, fun j u xs hu hx => ?_⟩, hc, h2⟩
  obtain ⟨A', c', hv, hsl, hc'⟩ := (n4 j u xs hu hx).1.slc enc3_len rfl
  exact ⟨A', _, c', hv, hsl, hc'⟩
theorem NetB.own {base base0 : Nat} {W : World} {v : Value} {net : List (List T3)} {bad : Nat → Prop} (h : NetB base W v net) (hb : ∀ j, base ≤ j → ¬ bad j) (hle : base0 ≤ base) : NetOwn bad base0 W v net := by
  obtain ⟨ss, h1, h2, h3⟩ := h
  refine ⟨ss.map Slv.v, (own_WV h1).base_le hle, fun j hj => hb j (h1.lt j hj).1, by rw [List.length_map, h2], fun j u xs hu hx => ?_⟩
  rw [List.getElem?_map] at hu
  obtain ⟨s, hs, rfl⟩ := Option.map_eq_some_iff.1 hu
  exact ⟨(h3 j s xs hs hx).1.base_le hle, fun i hi => hb i ((h3 j s xs hs hx).1.lt i hi).1⟩
/-- The coaches are put. -/
theorem St.putC {w0 W : World} {R : Nat} {s : LSt} {av : Nat → Prop} {v : Value} {net : List (List T3)} (h : St w0 R s av W) (hv : NetOwn (fun j => j = R ∨ av j) w0.heap.size W v net) :
    St w0 R { s with net := net } av (W.setCell ⟨R, 1, none⟩ v) := by
  obtain ⟨h1, h2, h3, h4, vr, vc, vb, ⟨o1, o2, o3, o4⟩, ⟨hv1, hv2⟩, hn, hb1, hb2⟩ := h
  have hg := grown_setCell W ⟨R, 1, none⟩ v
  exact ⟨h1, Nat.lt_of_lt_of_le h2 hg.size, h3.grown hg h3.size (fun k hk => by injection hk with hk; subst hk; exact h1), h4, vr, v, vb,
    ⟨by rw [World.cell?_setCell_other _ _ _ _ (by simp)]; exact o1, World.cell?_setCell_same _ _ _ o2, by rw [World.cell?_setCell_other _ _ _ _ (by simp)]; exact o3, fun j => by rw [World.frozen?_setCell]; exact o4 j⟩,
    ⟨hv1.apart hg (noBad_ne hv2 (.inl rfl)), hv2⟩, hv.kept hg (fun g hgr => by injection hgr with hgr; exact .inl hgr.symm), hb1.apart hg (noBad_ne hb2 (.inl rfl)), hb2⟩

set_option maxRecDepth 20000 in
set_option maxHeartbeats 3200000 in
theorem coach_any (w0 : World) (R : Nat) (s : LSt) (av : Nat → Prop) (A : Option Addr) (n c : Nat) (ns : List Int) (s' : LSt) (b : Bool) (W : World) (hs : St w0 R s av W) (ha : ∀ j, W.heap.size ≤ j → ¬ av j)
    (hN : SlE 1 encI W A n ns) (hn3 : n % 3 = 0) (hn : n ≤ 1000) (hl : s.net.length ≤ 1000) (hll : NetLen s.net)
    (hb : (b = true ∧ NetOk 6 (s.net ++ [tripL ns]) ∧ s' = { s with net := s.net ++ [tripL ns] }) ∨ (b = false ∧ ¬ NetOk 6 (s.net ++ [tripL ns]) ∧ s' = s)) :
    Calls Tryz.prog 140 #[.pointer (some ⟨R, 0, none⟩), .slice A n c] W (Ran w0 R s' [bs okL] b av W) := by
  obtain ⟨ys, hy⟩ : ∃ ys, (b = true ∧ NetOk 6 (s.net ++ [tripL ns]) ∧ ys = s.net ++ [tripL ns]) ∨ (b = false ∧ ¬ NetOk 6 (s.net ++ [tripL ns]) ∧ ys = []) := by
    rcases hb with ⟨h1, h2, h3⟩ | ⟨h1, h2, h3⟩
    · exact ⟨_, .inl ⟨h1, h2, rfl⟩⟩
    · exact ⟨_, .inr ⟨h1, h2, rfl⟩⟩
  have HY := Lib.hid hy
  clear hy
  have HS := Lib.hid hs
  have HA := Lib.hid ha
  have HB := Lib.hid hb
  have HLL := Lib.hid hll
  have HN := Lib.hid hN
  have HN3 := Lib.hid hn3
  have HTL := Lib.hid (show (tripL ns).length = n / 3 by rw [tripL_len, hN.len])
  clear hN hs ha hb hll hn3
  generalize hlen : s.net.length = m at *
  have HLN := Lib.hid hlen
  clear hlen
  go_enter Tryz.func140, Tryz.ntmps140
  go_wp2_with fail
  go_loopw [6, 7] (fun v i wr => ∃ j q : Nat, q = 3 * j ∧ q ≤ n ∧ i = .int .i64 q ∧ OwnE 3 enc3 103 W.heap.size wr v ((tripL ns).take j) ∧ Below W.heap.size W wr) (fun _ i _ => n - (intOf i).toNat)
  case atStart => exact ⟨0, 0, rfl, by omega, rfl, own_new W _ _ (Nat.le_refl _) enc3_len [] #[] rfl (by simp) rfl, below_alloc (Below.refl _ _) _⟩
  case round =>
    obtain ⟨j, q, hq, hqn, rfl, hown, hbr⟩ := hrel
    have HQ := Lib.hid hq
    have HR := Lib.hid hbr
    have HO := Lib.hid hown
    have hsz := hbr.size
    by_cases hqm : q + 2 < n
    · obtain ⟨bb, off, x, y, z, rfl, hp, hg⟩ := trip_at HN.out hq hqm
      have GW := Lib.hid hg
      have HP := Lib.hid hp
      have HW0 := Lib.hid (show wr.drew.cell? ⟨bb, off + q, none⟩ = some (.int .i64 x) ∧ wr.drew.cell? ⟨bb, off + (q + 1), none⟩ = some (.int .i64 y) ∧ wr.drew.cell? ⟨bb, off + (q + 2), none⟩ = some (.int .i64 z) from cells3_below (below_drew hbr) hg)
      have SN := Lib.hid (slE_new (enc := enc3) (k := 3) wr.drew 103 enc3_len [⟨x, y, z⟩] #[.int .i64 x, .int .i64 y, .int .i64 z] rfl (by unfold maxLen; simp) (n := 1) rfl (g := wr.heap.size) rfl)
      have OA := Lib.hid ((OwnE.drew hown).alloc (.cells #[.int .i64 x, .int .i64 y, .int .i64 z] 103))
      have BA := Lib.hid (below_alloc (below_drew hbr) (.cells #[.int .i64 x, .int .i64 y, .int .i64 z] 103))
      have HW1 := Lib.hid (cells3_below BA.out GW.out)
      have hlj : ((tripL ns).take j).length = j := by rw [List.length_take, HTL.out]; omega
      have N1 := Lib.hid (show (((tripL ns).take j).length + 1) * 24 ≤ 140737488355328 ∧ ((tripL ns).take j).length + 1 ≤ maxLen by rw [hlj]; unfold maxLen; omega)
      have XA := Lib.hid BA.out.size
      clear hq hown hbr hp hlj hg
      have hq0 : (0 : Int) ≤ (q : Int) ∧ (0 : Int) ≤ (q : Int) + 1 ∧ (0 : Int) ≤ (q : Int) + 2 := ⟨by omega, by omega, by omega⟩
      have hq1 : (q : Int) < (n : Int) ∧ (q : Int) + 1 < (n : Int) ∧ (q : Int) + 2 < (n : Int) := ⟨by omega, by omega, by omega⟩
      obtain ⟨hq2, hq3, hq4⟩ := hq0
      obtain ⟨hq5, hq6, hq7⟩ := hq1
      have hq8 : q < n ∧ q + 1 < n := ⟨by omega, by omega⟩
      obtain ⟨hq8, hq9⟩ := hq8
      have ht2 : ((q : Int) + 2).toNat = q + 2 := by omega
      have hwz1 : IntKind.i64.wrap ((q : Int) + 1) = (q : Int) + 1 := IntWalk.i64_in _ (by omega)
      have hwz2 : IntKind.i64.wrap ((q : Int) + 2) = (q : Int) + 2 := IntWalk.i64_in _ (by omega)
      go_wp2_with fail
      go_region_held3 (fun w' => w'.cell? ⟨bb, off + q, none⟩ = some (.int .i64 x) ∧ w'.cell? ⟨bb, off + (q + 1), none⟩ = some (.int .i64 y) ∧ w'.cell? ⟨bb, off + (q + 2), none⟩ = some (.int .i64 z))
        (first | exact HW0.out | exact HW1.out | exact CZ2.out | fail)
        (first
          | (go_loud (refine step_cat (bytes := 24) (base := W.heap.size) enc3_len enc3_one (Nat.succ_pos 2) rfl (.tmp 18) (.tmp 34) _ rfl Tryz.underlying50 info_stop rfl _ _ rfl OA.out rfl SN.out N1.out.1 N1.out.2 XA.out ?_; intro v2 w2 hown2 hg2; have B2 := Lib.hid (below_grown BA.out hg2 OA.out (Nat.le_refl _)); have O2 := Lib.hid hown2; have CZ2 := Lib.hid (cells3_below B2.out GW.out); clear hown2 hg2))
          | fail)
      all_goals (go_wp2_with fail; exact ⟨⟨j + 1, q + 3, by have := HQ.out; omega, by have := HN3.out; have := HQ.out; omega, by push_cast; rfl, by rw [take_next HP.out]; exact O2.out, B2.out⟩, by simp only [intOf]; omega⟩)
    · obtain rfl : q = n := by have := HN3.out; omega
      obtain ⟨tl, htl⟩ : ∃ tl, (tripL ns).length = tl := ⟨_, rfl⟩
      have hown' : OwnE 3 enc3 103 W.heap.size wr u6 (tripL ns) := by
        rw [List.take_of_length_le (by rw [HTL.out]; have := HQ.out; omega)] at hown
        exact hown
      obtain ⟨Ax, cx, rfl, hslx, -⟩ := hown'.slc enc3_len htl
      have htl2 : tl ≤ 1000 := by rw [← htl, HTL.out]; omega
      have SS := Lib.hid (HS.out.below hbr)
      obtain ⟨Ab, cb, hc, hf, hnet, hcap, hR⟩ := SS.out.netAt
      rw [HLN.out] at hc hnet hcap
      have HPA := Lib.hid (implPostAdd_any Ab Ax 6 m cb tl cx s.net (tripL ns) b ys wr hnet (by omega) HLL.out hslx (by omega) HY.out)
      clear hq hown hbr hown' htl hslx hnet
      go_wp2_with fail
      refine HPA.out.mono ?_
      rintro e w2 ⟨v, rfl, hnb, hb2⟩
      have hR0 := HS.out.2.1
      have HNB := Lib.hid hnb
      have HB2 := Lib.hid (below_trans HR.out hb2)
      have SS2 := Lib.hid (SS.out.below hb2)
      have hszd := HB2.out.size
      obtain ⟨A9, c9, hc9, hf9, -, -, hR9⟩ := SS2.out.netAt
      obtain ⟨Ay, my, cy, rfl⟩ : ∃ A m c, v = .slice A m c := by
        obtain ⟨A, c, h, -⟩ := HNB.out.netS
        exact ⟨A, _, c, h⟩
      clear hnb hb2 hc hf
      rcases HB.out with ⟨rfl, hj, rfl⟩ | ⟨rfl, hj, rfl⟩
      · obtain rfl : ys = s.net ++ [tripL ns] := by
          rcases HY.out with ⟨_, _, h⟩ | ⟨h, _⟩
          · exact h
          · cases h
        have HJ := Lib.hid hj
        clear hj
        go_wp2_with fail
        refine (done_any true _).mono ?_
        rintro e w3 ⟨v3, rfl, hown3, hb3⟩
        have hw2 : (w2.setCell ⟨R, 1, none⟩ (.slice Ay my cy)).heap.size = w2.heap.size := by simp [World.setCell]
        have HE := Lib.hid (show OwnE 1 encS 9 W.heap.size w3 v3 [bs okL] ∧ W.grownBy w3 (some R) ∧ St w0 R { s with net := s.net ++ [tripL ns] } av w3 from
          ⟨hown3.base_le (by rw [hw2]; exact hszd), grown_trans (grown_trans (grown_of_below HB2.out _) (grown_setCell w2 ⟨R, 1, none⟩ _)) (grown_of_below hb3 _),
           (SS2.out.putC (HNB.out.own (fun j hj hj2 => by rcases hj2 with h | h; omega; exact HA.out j (Nat.le_trans HR.out.size hj) h) (Nat.le_trans HS.out.1 (Nat.le_trans (Nat.le_of_lt hR0) HR.out.size)))).below hb3⟩)
        clear hown3 hb3
        go_wp2_with fail
        go_ret2
        exact ⟨v3, rfl, HE.out⟩
      · have HJ := Lib.hid hj
        clear hj
        go_wp2_with fail
        refine (done_any false _).mono ?_
        rintro e w3 ⟨v3, rfl, hown3, hb3⟩
        have HE := Lib.hid (show OwnE 1 encS 9 W.heap.size w3 v3 [bs okL] ∧ W.grownBy w3 (some R) ∧ St w0 R s' av w3 from
          ⟨hown3.base_le hszd, grown_trans (grown_of_below HB2.out _) (grown_of_below hb3 _), SS2.out.below hb3⟩)
        clear hown3 hb3
        go_wp2_with fail
        go_ret2
        exact ⟨v3, rfl, HE.out⟩
/-- The four numbers of a line. -/
theorem num4 {W : World} {A : Option Addr} {x y z u : Int} (h : SlE 1 encI W A 4 [x, y, z, u]) : ∃ b off, A = some ⟨b, off, none⟩ ∧ W.cell? ⟨b, off, none⟩ = some (.int .i64 x) ∧ W.cell? ⟨b, off + 1, none⟩ = some (.int .i64 y) ∧ W.cell? ⟨b, off + 2, none⟩ = some (.int .i64 z) ∧ W.cell? ⟨b, off + 3, none⟩ = some (.int .i64 u) := by
  obtain ⟨bb, off, p, rfl, hbl, hp, -, g0⟩ := at1 h (Below.refl _ _) (show 0 < 4 by omega)
  obtain ⟨bb', off', p', hA, hbl', hp', -, g1⟩ := at1 h (Below.refl _ _) (show 1 < 4 by omega)
  obtain ⟨bb2, off2, p2, hA2, hbl2, hp2, -, g2⟩ := at1 h (Below.refl _ _) (show 2 < 4 by omega)
  obtain ⟨bb3, off3, p3, hA3, hbl3, hp3, -, g3⟩ := at1 h (Below.refl _ _) (show 3 < 4 by omega)
  simp only [Option.some.injEq, Addr.mk.injEq, and_true] at hA hA2 hA3
  obtain ⟨rfl, rfl⟩ := hA
  obtain ⟨rfl, rfl⟩ := hA2
  obtain ⟨rfl, rfl⟩ := hA3
  simp only [List.getElem?_cons_zero, List.getElem?_cons_succ, Option.some.injEq] at hp hp' hp2 hp3
  subst hp hp' hp2 hp3
  rw [Nat.add_zero] at g0
  exact ⟨bb, off, rfl, g0, g1, g2, g3⟩
theorem cells5_below {W W' : World} (hb : Below W.heap.size W W') {p q r t v : Addr} {a b c d e : Value} (h : W.cell? p = some a ∧ W.cell? q = some b ∧ W.cell? r = some c ∧ W.cell? t = some d ∧ W.cell? v = some e) :
    W'.cell? p = some a ∧ W'.cell? q = some b ∧ W'.cell? r = some c ∧ W'.cell? t = some d ∧ W'.cell? v = some e := ⟨cell_below hb h.1, cell_below hb h.2.1, cell_below hb h.2.2.1, cell_below hb h.2.2.2.1, cell_below hb h.2.2.2.2⟩
set_option maxRecDepth 20000 in
set_option maxHeartbeats 3200000 in
theorem post_any (w0 : World) (hE : Env w0) (R : Nat) (s : LSt) (av : Nat → Prop) (A : Option Addr) (c : Nat) (x y z u : Int) (W : World) (hs : St w0 R s av W)
    (hN : SlE 1 encI W A 4 [x, y, z, u]) (hl : s.net.length ≤ 1000) (hll : NetLen s.net) :
    Calls Tryz.prog 142 #[.pointer (some ⟨R, 0, none⟩), .slice A 4 c] W (Ran w0 R s [bs (Lib.itoa (postV 6 s.net x y z u))] (decide (0 ≤ postV 6 s.net x y z u)) av W) := by
  obtain ⟨Ab, cb, hc, hf, hsl, hcap, hR⟩ := hs.netAt
  obtain ⟨bb, off, rfl, g0, g1, g2, g3⟩ := num4 hN
  have hfb := postV_bd 6 s.net x y z u
  have HF := Lib.hid (fun W' hW' => implPostArrive_any Ab 6 s.net.length cb s.net x y z u W' (hsl.below hW') (by omega) hll)
  generalize postV 6 s.net x y z u = v at *
  have HT := Lib.hid (told_any v (by omega) (by omega) hE)
  have HS := Lib.hid hs
  have HCS := Lib.hid (show W.cell? ⟨R, 1, none⟩ = some (.slice Ab s.net.length cb) ∧ W.cell? ⟨bb, off, none⟩ = some (.int .i64 x) ∧ W.cell? ⟨bb, off + 1, none⟩ = some (.int .i64 y) ∧ W.cell? ⟨bb, off + 2, none⟩ = some (.int .i64 z) ∧ W.cell? ⟨bb, off + 3, none⟩ = some (.int .i64 u) from ⟨hc, g0, g1, g2, g3⟩)
  clear hN hs hsl hcap hfb hll
  generalize s.net.length = len at *
  generalize decide (0 ≤ v) = bv at *
  go_enter Tryz.func142, Tryz.ntmps142
  go_wp2_with fail
  go_region_held3 (fun w' => w'.cell? ⟨R, 1, none⟩ = some (.slice Ab len cb) ∧ w'.cell? ⟨bb, off, none⟩ = some (.int .i64 x) ∧ w'.cell? ⟨bb, off + 1, none⟩ = some (.int .i64 y) ∧ w'.cell? ⟨bb, off + 2, none⟩ = some (.int .i64 z) ∧ w'.cell? ⟨bb, off + 3, none⟩ = some (.int .i64 u))
    (first | exact HCS.out | exact CZ2.out | exact CZ3.out | fail)
    (first
      | (go_at_call 28; (with_reducible_and_instances refine (HF.out _ (below_drew (Below.refl W.heap.size W))).mono ?_); rintro e w2 ⟨rfl, hb2⟩; have HB2 := Lib.hid ((below_drew (Below.refl W.heap.size W)).trans hb2); have CZ2 := Lib.hid (cells5_below hb2 (show W.drew.cell? ⟨R, 1, none⟩ = some (.slice Ab len cb) ∧ W.drew.cell? ⟨bb, off, none⟩ = some (.int .i64 x) ∧ W.drew.cell? ⟨bb, off + 1, none⟩ = some (.int .i64 y) ∧ W.drew.cell? ⟨bb, off + 2, none⟩ = some (.int .i64 z) ∧ W.drew.cell? ⟨bb, off + 3, none⟩ = some (.int .i64 u) from HCS.out)); have SS2 := Lib.hid ((HS.out.below (below_drew (Below.refl W.heap.size W))).below hb2); have W2 := Lib.hid (show Below w0.heap.size w0 w2 from SS2.out.2.2.1); clear hb2)
      | (go_at_call 179; (with_reducible_and_instances refine (HT.out _ W2.out).mono ?_); rintro e w3 ⟨v3, rfl, hown3, hb3⟩; have HB3 := Lib.hid (below_trans HB2.out hb3); have CZ3 := Lib.hid (cells5_below hb3 CZ2.out); have SS3 := Lib.hid (SS2.out.below hb3); have HO3 := Lib.hid hown3; clear hown3 hb3)
      | fail)
  go_wp2_with fail
  go_ret2
  exact ⟨v3, rfl, HO3.out.base_le HB2.out.size, grown_of_below HB3.out _, SS3.out⟩
end Go.Proofs.YtgjllminidlolaaGreatDoor
