/- Texts of mine in one: RWalkR EWalkO EWalkP Frame FrameU EFrame. -/
import Derived.Test.YtgjllminidlolaaGreatDoorVAN
import Derived.Test.YtgjllminidlolaaGreatDoorVAJ
import Derived.Test.YtgjllminidlolaaGreatDoorVAI
import Derived.Test.YtgjllminidlolaaGreatDoorVAL
import Derived.Test.YtgjllminidlolaaGreatDoorVAM
import Derived.Test.YtgjllminidlolaaGreatDoorVAB
import Derived.Test.YtgjllminidlolaaGreatDoorRows
import Derived.ProofKit
import Derived.OpenShut
import Derived.ShutString
import Derived.ChangeOld
import Derived.Deep.Slices
import Derived.Deep.Fields
import Derived.Test.YtgjllminidlolaaGreatDoorVAK
import Derived.LaidMore
import Derived.Lay
import Derived.SevenTiedAt
import Derived.Stop.Joined
import Derived.Lib.LaidTab
import Derived.Shelf.Vars
import Derived.Stop.LaidErr
/- Contracts: told; the commands of a script on roads. -/
set_option linter.unusedVariables false
namespace Go.Proofs.YtgjllminidlolaaGreatDoor
open Go.RowKit

/-- A number's text, a negative one's too. -/
theorem itoaE {x : Int} (h0 : -1000000000 ≤ x) (h1 : x ≤ 1000000000) {w : World} (hE : Env w) (W : World) (hW : Below w.heap.size w W) : Calls Tryz.prog 68 #[.int .i64 x] W (Only (.string (bs (Lib.itoa x))) W) := by
  refine (Tryz.strconv_Itoa x (by omega) (by omega) W (hE.later hW).2.2).mono ?_
  rintro e w' ⟨rfl, k, os, rfl⟩
  refine ⟨rfl, rfl, rfl, rfl, ?_, fun j hj => ?_⟩
  · show W.heap.size ≤ (W.heap ++ os).size
    rw [Array.size_append]
    omega
  · show (W.heap ++ os)[j]? = W.heap[j]?
    exact Array.getElem?_append_left hj
theorem itoa_dec {x : Int} (h : 0 ≤ x) : Lib.itoa x = decI x := by
  unfold Lib.itoa decI
  rw [if_neg (by omega)]
set_option maxRecDepth 20000 in
set_option maxHeartbeats 800000 in
theorem told_any (x : Int) (h0 : -1 ≤ x) (h1 : x ≤ 1000000000) {w : World} (hE : Env w) (W : World) (hW : Below w.heap.size w W) :
    Calls Tryz.prog 179 #[.int .i64 x] W (RetL [bs (Lib.itoa x)] (decide (0 ≤ x)) W) := by
  have HI := Lib.hid (itoaE (by omega) h1 hE W hW)
  clear hW hE
  by_cases hx : 0 ≤ x
  · have hd : decide (0 ≤ x) = true := by simp [hx]
    rw [hd]
    go_enter Tryz.func179, Tryz.ntmps179
    go_wp2_with fail
    refine HI.out.mono ?_
    rintro e w2 ⟨rfl, hb2⟩
    have HB2 := Lib.hid hb2
    clear hb2 HI
    go_wp2_with fail
    go_ret2
    exact ⟨_, rfl, own_new w2 _ _ HB2.out.size encS_len [bs (Lib.itoa x)] _ rfl (by unfold maxLen; simp) rfl, below_alloc HB2.out _⟩
  · have hd : decide (0 ≤ x) = false := by simp [hx]
    rw [hd]
    go_enter Tryz.func179, Tryz.ntmps179
    go_wp2_with fail
    refine HI.out.mono ?_
    rintro e w2 ⟨rfl, hb2⟩
    have HB2 := Lib.hid hb2
    clear hb2 HI
    go_wp2_with fail
    go_ret2
    exact ⟨_, rfl, own_new w2 _ _ HB2.out.size encS_len [bs (Lib.itoa x)] _ rfl (by unfold maxLen; simp) rfl, below_alloc HB2.out _⟩
/-- What the field of the roads holds. -/
theorem St.roadAt {w0 W : World} {R : Nat} {s : LSt} {av : Nat → Prop} (h : St w0 R s av W) :
    ∃ A c, W.cell? ⟨R, 0, none⟩ = some (.slice A s.roads.length c) ∧ W.frozen? ⟨R, 0, none⟩ = false ∧ SlE 3 enc3 W A s.roads.length s.roads ∧ s.roads.length ≤ c ∧ R < W.heap.size := by
  obtain ⟨h1, h2, h3, h4, vr, vc, vb, ⟨o1, o2, o3, o4⟩, ⟨hv, _⟩, hn, hb1, hb2⟩ := h
  obtain ⟨A, c, rfl, hs, hc⟩ := hv.slc enc3_len rfl
  exact ⟨A, c, o1, o4 0, hs, hc, h2⟩
/-- The roads are put. -/
theorem St.putR {w0 W : World} {R : Nat} {s : LSt} {av : Nat → Prop} {v : Value} {xs : List T3} (h : St w0 R s av W) (hv : OwnE 3 enc3 43 w0.heap.size W v xs) (hb : NoBad (fun j => j = R ∨ av j) v) :
    St w0 R { s with roads := xs } av (W.setCell ⟨R, 0, none⟩ v) := by
  obtain ⟨h1, h2, h3, h4, vr, vc, vb, ⟨o1, o2, o3, o4⟩, ⟨hv1, hv2⟩, hn, hb1, hb2⟩ := h
  have hg := grown_setCell W ⟨R, 0, none⟩ v
  exact ⟨h1, Nat.lt_of_lt_of_le h2 hg.size, h3.grown hg h3.size (fun k hk => by injection hk with hk; subst hk; exact h1), h4, v, vc, vb,
    ⟨World.cell?_setCell_same _ _ _ o1, by rw [World.cell?_setCell_other _ _ _ _ (by simp)]; exact o2, by rw [World.cell?_setCell_other _ _ _ _ (by simp)]; exact o3, fun j => by rw [World.frozen?_setCell]; exact o4 j⟩,
    ⟨hv.apart hg (noBad_ne hb (.inl rfl)), hb⟩, hn.kept hg (fun g hgr => by injection hgr with hgr; exact .inl hgr.symm), hb1.apart hg (noBad_ne hb2 (.inl rfl)), hb2⟩
/-- The numbers of a line. -/
theorem num2 {W : World} {A : Option Addr} {x y : Int} (h : SlE 1 encI W A 2 [x, y]) : ∃ b off, A = some ⟨b, off, none⟩ ∧ b < W.heap.size ∧ W.cell? ⟨b, off, none⟩ = some (.int .i64 x) ∧ W.cell? ⟨b, off + 1, none⟩ = some (.int .i64 y) := by
  obtain ⟨bb, off, p, rfl, hbl, hp, -, g0⟩ := at1 h (Below.refl _ _) (show 0 < 2 by omega)
  obtain ⟨bb', off', p', hA, hbl', hp', -, g1⟩ := at1 h (Below.refl _ _) (show 1 < 2 by omega)
  simp only [Option.some.injEq, Addr.mk.injEq, and_true] at hA
  obtain ⟨rfl, rfl⟩ := hA
  simp only [List.getElem?_cons_zero, List.getElem?_cons_succ, Option.some.injEq] at hp hp'
  subst hp hp'
  rw [Nat.add_zero] at g0
  exact ⟨bb, off, rfl, hbl, g0, g1⟩
theorem num3 {W : World} {A : Option Addr} {x y z : Int} (h : SlE 1 encI W A 3 [x, y, z]) : ∃ b off, A = some ⟨b, off, none⟩ ∧ b < W.heap.size ∧ W.cell? ⟨b, off, none⟩ = some (.int .i64 x) ∧ W.cell? ⟨b, off + 1, none⟩ = some (.int .i64 y) ∧ W.cell? ⟨b, off + 2, none⟩ = some (.int .i64 z) := by
  obtain ⟨bb, off, p, rfl, hbl, hp, -, g0⟩ := at1 h (Below.refl _ _) (show 0 < 3 by omega)
  obtain ⟨bb', off', p', hA, hbl', hp', -, g1⟩ := at1 h (Below.refl _ _) (show 1 < 3 by omega)
  obtain ⟨bb2, off2, p2, hA2, hbl2, hp2, -, g2⟩ := at1 h (Below.refl _ _) (show 2 < 3 by omega)
  simp only [Option.some.injEq, Addr.mk.injEq, and_true] at hA hA2
  obtain ⟨rfl, rfl⟩ := hA
  obtain ⟨rfl, rfl⟩ := hA2
  simp only [List.getElem?_cons_zero, List.getElem?_cons_succ, Option.some.injEq] at hp hp' hp2
  subst hp hp' hp2
  rw [Nat.add_zero] at g0
  exact ⟨bb, off, rfl, hbl, g0, g1, g2⟩
theorem cells3_below {W W' : World} (hb : Below W.heap.size W W') {p q r : Addr} {a b c : Value} (h : W.cell? p = some a ∧ W.cell? q = some b ∧ W.cell? r = some c) :
    W'.cell? p = some a ∧ W'.cell? q = some b ∧ W'.cell? r = some c := ⟨cell_below hb h.1, cell_below hb h.2.1, cell_below hb h.2.2⟩

set_option maxRecDepth 20000 in
set_option maxHeartbeats 3200000 in
theorem road_any (w0 : World) (R : Nat) (s : LSt) (av : Nat → Prop) (A : Option Addr) (c : Nat) (x y z : Int) (s' : LSt) (b : Bool) (W : World) (hs : St w0 R s av W) (ha : ∀ j, W.heap.size ≤ j → ¬ av j)
    (hN : SlE 1 encI W A 3 [x, y, z]) (hl : s.roads.length ≤ 1000)
    (hb : (b = true ∧ RoadOk 6 (s.roads ++ [⟨x, y, z⟩]) ∧ s' = { s with roads := s.roads ++ [⟨x, y, z⟩] }) ∨ (b = false ∧ ¬ RoadOk 6 (s.roads ++ [⟨x, y, z⟩]) ∧ s' = s)) :
    Calls Tryz.prog 136 #[.pointer (some ⟨R, 0, none⟩), .slice A 3 c] W (Ran w0 R s' [bs okL] b av W) := by
  obtain ⟨ys, hy⟩ : ∃ ys, (b = true ∧ RoadOk 6 (s.roads ++ [⟨x, y, z⟩]) ∧ ys = s.roads ++ [⟨x, y, z⟩]) ∨ (b = false ∧ ¬ RoadOk 6 (s.roads ++ [⟨x, y, z⟩]) ∧ ys = []) := by
    rcases hb with ⟨h1, h2, h3⟩ | ⟨h1, h2, h3⟩
    · exact ⟨_, .inl ⟨h1, h2, rfl⟩⟩
    · exact ⟨_, .inr ⟨h1, h2, rfl⟩⟩
  have HY := Lib.hid hy
  clear hy
  obtain ⟨Ab, cb, hc, hf, hsl, hcap, hR⟩ := hs.roadAt
  obtain ⟨bb, off, rfl, hbl, g0, g1, g2⟩ := num3 hN
  have HS := Lib.hid hs
  have HA := Lib.hid ha
  have HSL := Lib.hid hsl
  have HB := Lib.hid hb
  have HB0 := Lib.hid (below_drew (below_alloc (Below.refl W.heap.size W) (.cells #[.int .i64 x, .int .i64 y, .int .i64 z] 43)))
  clear hN hs ha hsl hb hcap
  generalize hlen : s.roads.length = len at *
  have HLN := Lib.hid hlen
  clear hlen
  go_enter Tryz.func136, Tryz.ntmps136
  go_wp2_with fail
  go_region
  go_wp2_with fail
  have hR0 : (W.alloc (.cells #[.int .i64 x, .int .i64 y, .int .i64 z] 43)).drew.cell? ⟨R, 0, none⟩ = some (.slice Ab len cb) := by rw [HB0.out.cell (by exact hR)]; exact hc
  have hR1 : (W.alloc (.cells #[.int .i64 x, .int .i64 y, .int .i64 z] 43)).drew.cell? ⟨W.heap.size, 0, none⟩ = some (.int .i64 x) := by simp
  have hR2 : (W.alloc (.cells #[.int .i64 x, .int .i64 y, .int .i64 z] 43)).drew.cell? ⟨W.heap.size, 1, none⟩ = some (.int .i64 y) := by simp
  have hR3 : (W.alloc (.cells #[.int .i64 x, .int .i64 y, .int .i64 z] 43)).drew.cell? ⟨W.heap.size, 2, none⟩ = some (.int .i64 z) := by simp
  have hsz : W.heap.size ≤ (W.alloc (.cells #[.int .i64 x, .int .i64 y, .int .i64 z] 43)).drew.heap.size := HB0.out.size
  generalize (W.alloc (.cells #[.int .i64 x, .int .i64 y, .int .i64 z] 43)).drew = WA at *
  have HCS := Lib.hid (show WA.cell? ⟨R, 0, none⟩ = some (.slice Ab len cb) ∧ WA.cell? ⟨W.heap.size, 0, none⟩ = some (.int .i64 x) ∧ WA.cell? ⟨W.heap.size, 1, none⟩ = some (.int .i64 y) ∧ WA.cell? ⟨W.heap.size, 2, none⟩ = some (.int .i64 z) from ⟨hR0, hR1, hR2, hR3⟩)
  clear hc hf g0 g1 g2
  go_region_held3 (fun w' => w'.cell? ⟨R, 0, none⟩ = some (.slice Ab len cb) ∧ w'.cell? ⟨W.heap.size, 0, none⟩ = some (.int .i64 x) ∧ w'.cell? ⟨W.heap.size, 1, none⟩ = some (.int .i64 y) ∧ w'.cell? ⟨W.heap.size, 2, none⟩ = some (.int .i64 z))
    (first | exact HCS.out | exact CZ2.out | fail)
    (first
      | (go_at_call 176; (with_reducible_and_instances refine (implRoadsAdd_any Ab 6 len cb s.roads x y z ys b _ ((HSL.out.below HB0.out).drew) (by omega) HY.out).mono ?_); rintro e w2 ⟨v, rfl, hown, hb2⟩; have HO2 := Lib.hid hown; have HB2 := Lib.hid ((below_drew HB0.out).trans (hb2.mono hsz)); have CZ2 := Lib.hid (cells4_below hb2 (show WA.drew.cell? ⟨R, 0, none⟩ = some (.slice Ab len cb) ∧ WA.drew.cell? ⟨W.heap.size, 0, none⟩ = some (.int .i64 x) ∧ WA.drew.cell? ⟨W.heap.size, 1, none⟩ = some (.int .i64 y) ∧ WA.drew.cell? ⟨W.heap.size, 2, none⟩ = some (.int .i64 z) from HCS.out)); have SS2 := Lib.hid ((HS.out.below (below_drew HB0.out)).below hb2); clear hown hb2)
      | fail)
  clear hR0 hR1 hR2 hR3 HCS
  obtain ⟨A9, c9, hc9, hf9, -, -, hR9⟩ := SS2.out.roadAt
  have hszd := HB2.out.size
  rcases HB.out with ⟨rfl, hj, rfl⟩ | ⟨rfl, hj, rfl⟩
  · obtain rfl : ys = s.roads ++ [⟨x, y, z⟩] := by
      rcases HY.out with ⟨_, _, h⟩ | ⟨h, _⟩
      · exact h
      · cases h
    obtain ⟨m, hm⟩ : ∃ m, (s.roads ++ ([⟨x, y, z⟩] : List T3)).length = m := ⟨_, rfl⟩
    obtain ⟨Ay, cy, rfl, -, -⟩ := HO2.out.slc enc3_len hm
    have HJ := Lib.hid hj
    clear hj hm
    go_wp2_with fail
    refine (done_any true _).mono ?_
    rintro e w3 ⟨v3, rfl, hown3, hb3⟩
    have hw2 : (w2.setCell ⟨R, 0, none⟩ (.slice Ay m cy)).heap.size = w2.heap.size := by simp [World.setCell]
    have HE := Lib.hid (show OwnE 1 encS 9 W.heap.size w3 v3 [bs okL] ∧ W.grownBy w3 (some R) ∧ St w0 R { s with roads := s.roads ++ [⟨x, y, z⟩] } av w3 from
      ⟨hown3.base_le (by rw [hw2]; exact hszd), grown_trans (grown_trans (grown_of_below HB2.out _) (grown_setCell w2 ⟨R, 0, none⟩ _)) (grown_of_below hb3 _),
       (SS2.out.putR (HO2.out.base_le (Nat.le_trans HS.out.1 (Nat.le_trans (Nat.le_of_lt hR) hsz))) (noBad_new (fun j hj => (HO2.out.lt j hj).1) (Nat.lt_of_lt_of_le hR hsz) (fun j hj => HA.out j (Nat.le_trans hsz hj)))).below hb3⟩)
    clear hown3 hb3
    go_wp2_with fail
    go_ret2
    exact ⟨v3, rfl, HE.out⟩
  · have HJ := Lib.hid hj
    clear hj
    go_wp2_with fail
    refine (done_any false _).mono ?_
    rintro e w3 ⟨v3, rfl, hown3, hb3⟩
    have HE := Lib.hid (show OwnE 1 encS 9 W.heap.size w3 v3 [bs okL] ∧ W.grownBy w3 (some R) ∧ St w0 R s' av w3 from
      ⟨hown3.base_le hszd, grown_trans (grown_of_below HB2.out _) (grown_of_below hb3 _), SS2.out.below hb3⟩)
    clear hown3 hb3
    go_wp2_with fail
    go_ret2
    exact ⟨v3, rfl, HE.out⟩

set_option maxRecDepth 20000 in
set_option maxHeartbeats 3200000 in
theorem close_any (w0 : World) (R : Nat) (s : LSt) (av : Nat → Prop) (A : Option Addr) (c : Nat) (x y : Int) (s' : LSt) (b : Bool) (W : World) (hs : St w0 R s av W) (ha : ∀ j, W.heap.size ≤ j → ¬ av j)
    (hN : SlE 1 encI W A 2 [x, y]) (hl : s.roads.length ≤ 1000)
    (hb : (b = true ∧ (RoadOk 6 s.roads ∧ 0 ≤ fndR s.roads x y) ∧ s' = { s with roads := s.roads.eraseIdx (fndR s.roads x y).toNat }) ∨ (b = false ∧ ¬ (RoadOk 6 s.roads ∧ 0 ≤ fndR s.roads x y) ∧ s' = s)) :
    Calls Tryz.prog 137 #[.pointer (some ⟨R, 0, none⟩), .slice A 2 c] W (Ran w0 R s' [bs okL] b av W) := by
  obtain ⟨ys, hy, hy2⟩ : ∃ ys, CloseOf 6 s.roads x y b ys ∧ (b = true → s' = { s with roads := ys }) := by
    rcases hb with ⟨h1, h2, h3⟩ | ⟨h1, h2, h3⟩
    · exact ⟨_, .inl ⟨h1, h2.1, h2.2, rfl⟩, fun _ => h3⟩
    · exact ⟨_, .inr ⟨h1, h2, rfl⟩, fun h => by rw [h1] at h; cases h⟩
  have HY := Lib.hid hy
  have HY2 := Lib.hid hy2
  clear hy hy2
  obtain ⟨Ab, cb, hc, hf, hsl, hcap, hR⟩ := hs.roadAt
  obtain ⟨bb, off, rfl, hbl, g0, g1⟩ := num2 hN
  have HS := Lib.hid hs
  have HA := Lib.hid ha
  have HSL := Lib.hid hsl
  have HB := Lib.hid hb
  have HCP := Lib.hid hcap
  have HCS := Lib.hid (show W.cell? ⟨R, 0, none⟩ = some (.slice Ab s.roads.length cb) ∧ W.cell? ⟨bb, off, none⟩ = some (.int .i64 x) ∧ W.cell? ⟨bb, off + 1, none⟩ = some (.int .i64 y) from ⟨hc, g0, g1⟩)
  clear hN hs ha hsl hb hcap
  generalize hlen : s.roads.length = len at *
  have HLN := Lib.hid hlen
  clear hlen
  go_enter Tryz.func137, Tryz.ntmps137
  go_wp2_with fail
  go_region_held3 (fun w' => w'.cell? ⟨R, 0, none⟩ = some (.slice Ab len cb) ∧ w'.cell? ⟨bb, off, none⟩ = some (.int .i64 x) ∧ w'.cell? ⟨bb, off + 1, none⟩ = some (.int .i64 y))
    (first | exact HCS.out | exact CZ2.out | fail)
    (first
      | (go_at_call 178; (with_reducible_and_instances refine (implRoadsClose_any Ab 6 x y len cb s.roads ys b _ HSL.out.drew HCP.out (by omega) HY.out).mono ?_); rintro e w2 ⟨v, rfl, hown, hb2⟩; have HO2 := Lib.hid hown; have HB2 := Lib.hid ((below_drew (Below.refl W.heap.size W)).trans hb2); have CZ2 := Lib.hid (cells3_below hb2 (show W.drew.cell? ⟨R, 0, none⟩ = some (.slice Ab len cb) ∧ W.drew.cell? ⟨bb, off, none⟩ = some (.int .i64 x) ∧ W.drew.cell? ⟨bb, off + 1, none⟩ = some (.int .i64 y) from HCS.out)); have SS2 := Lib.hid ((HS.out.below (below_drew (Below.refl W.heap.size W))).below hb2); clear hown hb2)
      | fail)
  clear hc hf g0 g1 HCS
  obtain ⟨A9, c9, hc9, hf9, -, -, hR9⟩ := SS2.out.roadAt
  have hszd := HB2.out.size
  cases b with
  | true =>
    obtain rfl := HY2.out rfl
    obtain ⟨m, hm⟩ : ∃ m, ys.length = m := ⟨_, rfl⟩
    obtain ⟨Ay, cy, rfl, -, -⟩ := HO2.out.slc enc3_len hm
    clear hm
    go_wp2_with fail
    refine (done_any true _).mono ?_
    rintro e w3 ⟨v3, rfl, hown3, hb3⟩
    have hw2 : (w2.setCell ⟨R, 0, none⟩ (.slice Ay m cy)).heap.size = w2.heap.size := by simp [World.setCell]
    have HE := Lib.hid (show OwnE 1 encS 9 W.heap.size w3 v3 [bs okL] ∧ W.grownBy w3 (some R) ∧ St w0 R { s with roads := ys } av w3 from
      ⟨hown3.base_le (by rw [hw2]; exact hszd), grown_trans (grown_trans (grown_of_below HB2.out _) (grown_setCell w2 ⟨R, 0, none⟩ _)) (grown_of_below hb3 _),
       (SS2.out.putR (HO2.out.base_le (Nat.le_trans HS.out.1 (Nat.le_of_lt hR))) (noBad_new (fun j hj => (HO2.out.lt j hj).1) hR (fun j hj => HA.out j hj))).below hb3⟩)
    clear hown3 hb3
    go_wp2_with fail
    go_ret2
    exact ⟨v3, rfl, HE.out⟩
  | false =>
    obtain rfl : s' = s := by
      rcases HB.out with ⟨h, _⟩ | ⟨_, _, h⟩
      · cases h
      · exact h
    go_wp2_with fail
    refine (done_any false _).mono ?_
    rintro e w3 ⟨v3, rfl, hown3, hb3⟩
    have HE := Lib.hid (show OwnE 1 encS 9 W.heap.size w3 v3 [bs okL] ∧ W.grownBy w3 (some R) ∧ St w0 R s' av w3 from
      ⟨hown3.base_le hszd, grown_trans (grown_of_below HB2.out _) (grown_of_below hb3 _), SS2.out.below hb3⟩)
    clear hown3 hb3
    go_wp2_with fail
    go_ret2
    exact ⟨v3, rfl, HE.out⟩

set_option maxRecDepth 20000 in
set_option maxHeartbeats 3200000 in
theorem far_any (w0 : World) (hE : Env w0) (R : Nat) (s : LSt) (av : Nat → Prop) (A : Option Addr) (c : Nat) (x y : Int) (W : World) (hs : St w0 R s av W)
    (hN : SlE 1 encI W A 2 [x, y]) (hl : s.roads.length ≤ 1000) :
    Calls Tryz.prog 138 #[.pointer (some ⟨R, 0, none⟩), .slice A 2 c] W (Ran w0 R s [bs (Lib.itoa (farV 6 s.roads x y))] (decide (0 ≤ farV 6 s.roads x y)) av W) := by
  obtain ⟨Ab, cb, hc, hf, hsl, hcap, hR⟩ := hs.roadAt
  obtain ⟨bb, off, rfl, hbl, g0, g1⟩ := num2 hN
  have hfb := farV_bd 6 s.roads x y
  have HF := Lib.hid (fun W' hW' => implRoadsFar_any Ab 6 x y s.roads.length cb s.roads W' (hsl.below hW') (by omega))
  generalize farV 6 s.roads x y = v at *
  have HT := Lib.hid (told_any v (by omega) (by omega) hE)
  have HS := Lib.hid hs
  have HCS := Lib.hid (show W.cell? ⟨R, 0, none⟩ = some (.slice Ab s.roads.length cb) ∧ W.cell? ⟨bb, off, none⟩ = some (.int .i64 x) ∧ W.cell? ⟨bb, off + 1, none⟩ = some (.int .i64 y) from ⟨hc, g0, g1⟩)
  clear hN hs hsl hcap hfb
  generalize s.roads.length = len at *
  generalize decide (0 ≤ v) = bv at *
  go_enter Tryz.func138, Tryz.ntmps138
  go_wp2_with fail
  go_region_held3 (fun w' => w'.cell? ⟨R, 0, none⟩ = some (.slice Ab len cb) ∧ w'.cell? ⟨bb, off, none⟩ = some (.int .i64 x) ∧ w'.cell? ⟨bb, off + 1, none⟩ = some (.int .i64 y))
    (first | exact HCS.out | exact CZ2.out | exact CZ3.out | fail)
    (first
      | (go_at_call 26; (with_reducible_and_instances refine (HF.out _ (below_drew (Below.refl W.heap.size W))).mono ?_); rintro e w2 ⟨rfl, hb2⟩; have HB2 := Lib.hid ((below_drew (Below.refl W.heap.size W)).trans hb2); have CZ2 := Lib.hid (cells3_below hb2 (show W.drew.cell? ⟨R, 0, none⟩ = some (.slice Ab len cb) ∧ W.drew.cell? ⟨bb, off, none⟩ = some (.int .i64 x) ∧ W.drew.cell? ⟨bb, off + 1, none⟩ = some (.int .i64 y) from HCS.out)); have SS2 := Lib.hid ((HS.out.below (below_drew (Below.refl W.heap.size W))).below hb2); have W2 := Lib.hid (show Below w0.heap.size w0 w2 from SS2.out.2.2.1); clear hb2)
      | (go_at_call 179; (with_reducible_and_instances refine (HT.out _ W2.out).mono ?_); rintro e w3 ⟨v3, rfl, hown3, hb3⟩; have HB3 := Lib.hid (below_trans HB2.out hb3); have CZ3 := Lib.hid (cells3_below hb3 CZ2.out); have SS3 := Lib.hid (SS2.out.below hb3); have HO3 := Lib.hid hown3; clear hown3 hb3)
      | fail)
  go_wp2_with fail
  go_ret2
  exact ⟨v3, rfl, HO3.out.base_le HB2.out.size, grown_of_below HB3.out _, SS3.out⟩

set_option maxRecDepth 20000 in
set_option maxHeartbeats 3200000 in
theorem way_any (w0 : World) (R : Nat) (s : LSt) (av : Nat → Prop) (A : Option Addr) (c : Nat) (x y : Int) (W : World) (hs : St w0 R s av W)
    (hN : SlE 1 encI W A 2 [x, y]) (hl : s.roads.length ≤ 1000) :
    Calls Tryz.prog 139 #[.pointer (some ⟨R, 0, none⟩), .slice A 2 c] W (Ran w0 R s [bs (spacedL (wayV 6 s.roads x y))] (decide (0 ≤ farV 6 s.roads x y)) av W) := by
  obtain ⟨Ab, cb, hc, hf, hsl, hcap, hR⟩ := hs.roadAt
  obtain ⟨bb, off, rfl, hbl, g0, g1⟩ := num2 hN
  have hns : (wayV 6 s.roads x y).length ≤ 8 ∧ ∀ u ∈ wayV 6 s.roads x y, 0 ≤ u ∧ u < 100 := by
    by_cases h : 0 ≤ farV 6 s.roads x y
    · exact ⟨(wayV_len h).2, fun u hu => by have := wayV_mem h u hu; omega⟩
    · rw [wayV_no (by omega)]
      exact ⟨by simp, fun u hu => by cases hu⟩
  have HF := Lib.hid (fun W' hW' => implRoadsWay_any Ab 6 x y s.roads.length cb s.roads W' (hsl.below hW') (by omega))
  generalize wayV 6 s.roads x y = ns at *
  generalize decide (0 ≤ farV 6 s.roads x y) = bv at *
  have HNS := Lib.hid hns
  have HS := Lib.hid hs
  have HCS := Lib.hid (show W.cell? ⟨R, 0, none⟩ = some (.slice Ab s.roads.length cb) ∧ W.cell? ⟨bb, off, none⟩ = some (.int .i64 x) ∧ W.cell? ⟨bb, off + 1, none⟩ = some (.int .i64 y) from ⟨hc, g0, g1⟩)
  clear hN hs hsl hcap hns
  generalize s.roads.length = len at *
  go_enter Tryz.func139, Tryz.ntmps139
  go_wp2_with fail
  go_region_held3 (fun w' => w'.cell? ⟨R, 0, none⟩ = some (.slice Ab len cb) ∧ w'.cell? ⟨bb, off, none⟩ = some (.int .i64 x) ∧ w'.cell? ⟨bb, off + 1, none⟩ = some (.int .i64 y))
    (first | exact HCS.out | exact CZ2.out | fail)
    (first
      | (go_at_call 24; (with_reducible_and_instances refine (HF.out _ (below_drew (Below.refl W.heap.size W))).mono ?_); rintro e w2 ⟨v, rfl, hown, hb2⟩; have HO2 := Lib.hid hown; have HB2 := Lib.hid ((below_drew (Below.refl W.heap.size W)).trans hb2); have CZ2 := Lib.hid (cells3_below hb2 (show W.drew.cell? ⟨R, 0, none⟩ = some (.slice Ab len cb) ∧ W.drew.cell? ⟨bb, off, none⟩ = some (.int .i64 x) ∧ W.drew.cell? ⟨bb, off + 1, none⟩ = some (.int .i64 y) from HCS.out)); have SS2 := Lib.hid ((HS.out.below (below_drew (Below.refl W.heap.size W))).below hb2); clear hown hb2)
      | fail)
  clear hc hf g0 g1 HCS CZ2
  obtain ⟨m, hm⟩ : ∃ m, ns.length = m := ⟨_, rfl⟩
  obtain ⟨A2, c2, rfl, hsl2, -⟩ := HO2.out.slc encI_len hm
  have HSL2 := Lib.hid hsl2
  have HM := Lib.hid hm
  clear hsl2 hm
  go_wp2_with fail
  refine (numbersText_any A2 m c2 ns w2 HSL2.out (by have := HNS.out.1; rw [HM.out] at this; omega) (fun u hu => itoa_small (HNS.out.2 u hu).1 (HNS.out.2 u hu).2 _) (by have h1 := spaced_le HNS.out.2; have h2 := HNS.out.1; omega)).mono ?_
  rintro e w3 ⟨rfl, hb3⟩
  have HB3 := Lib.hid (below_trans HB2.out hb3)
  have SS3 := Lib.hid (SS2.out.below hb3)
  have hsz3 := HB3.out.size
  clear hb3
  go_wp2_with fail
  go_ret2
  exact ⟨_, rfl, own_new w3 _ _ hsz3 encS_len [bs (spacedL ns)] _ rfl (by unfold maxLen; simp) rfl, (grown_of_below (below_alloc HB3.out _) _), SS3.out.below (below_alloc (Below.refl _ _) _)⟩
end Go.Proofs.YtgjllminidlolaaGreatDoor
/- Contracts: lines of a script on roads and on seats are obeyed as the plain law says. -/
set_option linter.unusedVariables false
namespace Go.Proofs.YtgjllminidlolaaGreatDoor
open Go.RowKit

/-- A line is obeyed as the plain law says. -/
def LineDoes (w0 : World) (R : Nat) (s : LSt) (l : List UInt8) : Prop :=
  ∀ (W : World) (av : Nat → Prop), St w0 R s av W → (∀ j, W.heap.size ≤ j → ¬ av j) → Calls Tryz.prog 36 #[.pointer (some ⟨R, 0, none⟩), .string (bs l)] W (Obeyed w0 R (stepS s l) ((stepO s l).map bs) av W)
theorem ans_of {s : LSt} {l wd : List UInt8} {ws : List (List UInt8)} {a : Ans} (hc : cutL 32 l = wd :: ws) (h : cmdC s wd (ws.map numL) = a) : stepS s l = ansSt s a ∧ stepO s l = ansOut a := by
  unfold stepS stepO ansL
  rw [hc]
  dsimp only
  rw [h]
  exact ⟨rfl, rfl⟩
theorem line_of {w0 : World} {R : Nat} {s s' : LSt} (hE : Env w0) {l wd : List UInt8} {ws : List (List UInt8)} {nw : Int} {k : Nat} {o : Option (List (List UInt8))} {out : List ByteArray} {ok : Bool} (hl : l.length ≤ 1000) (hc : cutL 32 l = wd :: ws)
    (hn : cmdOf (bs wd) = some (nw, k)) (hf : Fits nw ws.length) (hcf : ∀ (args : Array Value) (W : World), (callFunc k args).run Tryz.prog W = .ok (.enter k args) W)
    (hcmd : cmdC s wd (ws.map numL) = some (s', o)) (ho : (ok = true ∧ ∃ ls, o = some ls ∧ out = ls.map bs) ∨ (ok = false ∧ o = none))
    (hk : ∀ (W' : World) (av' : Nat → Prop) (A : Option Addr) (n c : Nat), n = ws.length → (∀ j, W'.heap.size ≤ j → ¬ av' j) → St w0 R s av' W' → SlE 1 encI W' A n (ws.map numL) → Calls Tryz.prog k #[.pointer (some ⟨R, 0, none⟩), .slice A n c] W' (Ran w0 R s' out ok av' W')) :
    LineDoes w0 R s l := fun W av hst ha => by
  obtain ⟨e1, e2⟩ := ans_of hc hcmd
  rw [e1, e2]
  rcases ho with ⟨rfl, ls, rfl, rfl⟩ | ⟨rfl, rfl⟩
  · exact obey_line hE l wd ws nw k _ _ true hst ha hl hc hn hf hk hcf (.inl ⟨rfl, rfl⟩)
  · exact obey_line hE l wd ws nw k out [bs noL] false hst ha hl hc hn hf hk hcf (.inr ⟨rfl, rfl⟩)

theorem cmd_road : cmdOf (bs roadW) = some (3, 136) := by kernel_rfl
theorem cmd_close : cmdOf (bs closeW) = some (2, 137) := by kernel_rfl
theorem cmd_far : cmdOf (bs farW) = some (2, 138) := by kernel_rfl
theorem cmd_way : cmdOf (bs wayW) = some (2, 139) := by kernel_rfl
theorem cf_road : ∀ (args : Array Value) (W : World), (callFunc 136 args).run Tryz.prog W = .ok (.enter 136 args) W := fun _ _ => by kernel_rfl
theorem cf_close : ∀ (args : Array Value) (W : World), (callFunc 137 args).run Tryz.prog W = .ok (.enter 137 args) W := fun _ _ => by kernel_rfl
theorem cf_far : ∀ (args : Array Value) (W : World), (callFunc 138 args).run Tryz.prog W = .ok (.enter 138 args) W := fun _ _ => by kernel_rfl
theorem cf_way : ∀ (args : Array Value) (W : World), (callFunc 139 args).run Tryz.prog W = .ok (.enter 139 args) W := fun _ _ => by kernel_rfl

section
variable {w0 : World} {R : Nat} {s : LSt} {l : List UInt8}
theorem line_road (hE : Env w0) (hok : StOk s) (hl : l.length ≤ 1000) {x y z : List UInt8} (hc : cutL 32 l = [roadW, x, y, z]) : LineDoes w0 R s l := by
  have h16 := hok.1.2.2.1
  by_cases h : RoadOk 6 (s.roads ++ [⟨numL x, numL y, numL z⟩])
  · refine line_of hE hl hc cmd_road (.inl rfl) cf_road (s' := { s with roads := s.roads ++ [⟨numL x, numL y, numL z⟩] }) (o := some [okL]) (out := [bs okL]) (ok := true) ?_ (.inl ⟨rfl, _, rfl, rfl⟩) (fun W' av' A n c hn ha hst hsl => ?_)
    · unfold cmdC
      rw [if_pos rfl]
      show roadC s [numL x, numL y, numL z] = _; unfold roadC; dsimp only
      rw [if_pos h]
    · subst hn
      exact road_any w0 R s av' A c _ _ _ _ true W' hst ha hsl (by omega) (.inl ⟨rfl, h, rfl⟩)
  · refine line_of hE hl hc cmd_road (.inl rfl) cf_road (s' := s) (o := none) (out := [bs okL]) (ok := false) ?_ (.inr ⟨rfl, rfl⟩) (fun W' av' A n c hn ha hst hsl => ?_)
    · unfold cmdC
      rw [if_pos rfl]
      show roadC s [numL x, numL y, numL z] = _; unfold roadC; dsimp only
      rw [if_neg h]
    · subst hn
      exact road_any w0 R s av' A c _ _ _ _ false W' hst ha hsl (by omega) (.inr ⟨rfl, h, rfl⟩)
theorem line_close (hE : Env w0) (hok : StOk s) (hl : l.length ≤ 1000) {x y : List UInt8} (hc : cutL 32 l = [closeW, x, y]) : LineDoes w0 R s l := by
  have h16 := hok.1.2.2.1
  by_cases h : RoadOk 6 s.roads ∧ 0 ≤ fndR s.roads (numL x) (numL y)
  · refine line_of hE hl hc cmd_close (.inl rfl) cf_close (s' := { s with roads := s.roads.eraseIdx (fndR s.roads (numL x) (numL y)).toNat }) (o := some [okL]) (out := [bs okL]) (ok := true) ?_ (.inl ⟨rfl, _, rfl, rfl⟩) (fun W' av' A n c hn ha hst hsl => ?_)
    · unfold cmdC
      rw [if_neg (by decide), if_pos rfl]
      show closeC s [numL x, numL y] = _; unfold closeC; dsimp only
      rw [if_pos h]
    · subst hn
      exact close_any w0 R s av' A c _ _ _ true W' hst ha hsl (by omega) (.inl ⟨rfl, h, rfl⟩)
  · refine line_of hE hl hc cmd_close (.inl rfl) cf_close (s' := s) (o := none) (out := [bs okL]) (ok := false) ?_ (.inr ⟨rfl, rfl⟩) (fun W' av' A n c hn ha hst hsl => ?_)
    · unfold cmdC
      rw [if_neg (by decide), if_pos rfl]
      show closeC s [numL x, numL y] = _; unfold closeC; dsimp only
      rw [if_neg h]
    · subst hn
      exact close_any w0 R s av' A c _ _ _ false W' hst ha hsl (by omega) (.inr ⟨rfl, h, rfl⟩)
theorem line_far (hE : Env w0) (hok : StOk s) (hl : l.length ≤ 1000) {x y : List UInt8} (hc : cutL 32 l = [farW, x, y]) : LineDoes w0 R s l := by
  have h16 := hok.1.2.2.1
  by_cases h : 0 ≤ farV 6 s.roads (numL x) (numL y)
  · refine line_of hE hl hc cmd_far (.inl rfl) cf_far (s' := s) (o := some [decI (farV 6 s.roads (numL x) (numL y))]) (out := [bs (Lib.itoa (farV 6 s.roads (numL x) (numL y)))]) (ok := true) ?_ (.inl ⟨rfl, _, rfl, by rw [itoa_dec h]; rfl⟩) (fun W' av' A n c hn ha hst hsl => ?_)
    · unfold cmdC
      rw [if_neg (by decide), if_neg (by decide), if_pos rfl]
      show farC s [numL x, numL y] = _; unfold farC; dsimp only
      rw [if_pos h]
    · subst hn
      have := far_any w0 hE R s av' A c _ _ W' hst hsl (by omega)
      rwa [decide_eq_true h] at this
  · refine line_of hE hl hc cmd_far (.inl rfl) cf_far (s' := s) (o := none) (out := [bs (Lib.itoa (farV 6 s.roads (numL x) (numL y)))]) (ok := false) ?_ (.inr ⟨rfl, rfl⟩) (fun W' av' A n c hn ha hst hsl => ?_)
    · unfold cmdC
      rw [if_neg (by decide), if_neg (by decide), if_pos rfl]
      show farC s [numL x, numL y] = _; unfold farC; dsimp only
      rw [if_neg h]
    · subst hn
      have := far_any w0 hE R s av' A c _ _ W' hst hsl (by omega)
      rwa [decide_eq_false h] at this
theorem line_way (hE : Env w0) (hok : StOk s) (hl : l.length ≤ 1000) {x y : List UInt8} (hc : cutL 32 l = [wayW, x, y]) : LineDoes w0 R s l := by
  have h16 := hok.1.2.2.1
  by_cases h : 0 ≤ farV 6 s.roads (numL x) (numL y)
  · refine line_of hE hl hc cmd_way (.inl rfl) cf_way (s' := s) (o := some [spacedL (wayV 6 s.roads (numL x) (numL y))]) (out := [bs (spacedL (wayV 6 s.roads (numL x) (numL y)))]) (ok := true) ?_ (.inl ⟨rfl, _, rfl, rfl⟩) (fun W' av' A n c hn ha hst hsl => ?_)
    · unfold cmdC
      rw [if_neg (by decide), if_neg (by decide), if_neg (by decide), if_pos rfl]
      show wayC s [numL x, numL y] = _; unfold wayC; dsimp only
      rw [if_pos h]
    · subst hn
      have := way_any w0 R s av' A c _ _ W' hst hsl (by omega)
      rwa [decide_eq_true h] at this
  · refine line_of hE hl hc cmd_way (.inl rfl) cf_way (s' := s) (o := none) (out := [bs (spacedL (wayV 6 s.roads (numL x) (numL y)))]) (ok := false) ?_ (.inr ⟨rfl, rfl⟩) (fun W' av' A n c hn ha hst hsl => ?_)
    · unfold cmdC
      rw [if_neg (by decide), if_neg (by decide), if_neg (by decide), if_pos rfl]
      show wayC s [numL x, numL y] = _; unfold wayC; dsimp only
      rw [if_neg h]
    · subst hn
      have := way_any w0 R s av' A c _ _ W' hst hsl (by omega)
      rwa [decide_eq_false h] at this
theorem line_seat (hE : Env w0) (hok : StOk s) (hl : l.length ≤ 1000) (z : Bool) {x y : List UInt8} (hc : cutL 32 l = [kindL z, x, y]) : LineDoes w0 R s l := by
  have h16 := hok.2.2.2.2.1
  by_cases h : BookOk 5 (s.list ++ [⟨numL x, numL y, z⟩])
  · have hcmd : cmdC s (kindL z) ([x, y].map numL) = some ({ s with list := s.list ++ [⟨numL x, numL y, z⟩] }, some [okL]) := by
      cases z
      · unfold cmdC
        rw [if_neg (by decide), if_neg (by decide), if_neg (by decide), if_neg (by decide), if_neg (by decide), if_neg (by decide), if_neg (by decide), if_neg (by decide), if_neg (by decide), if_pos rfl]
        show seatC s _ [numL x, numL y] = _; unfold seatC; dsimp only
        rw [if_pos h]
      · unfold cmdC
        rw [if_neg (by decide), if_neg (by decide), if_neg (by decide), if_neg (by decide), if_neg (by decide), if_neg (by decide), if_neg (by decide), if_neg (by decide), if_pos rfl]
        show seatC s _ [numL x, numL y] = _; unfold seatC; dsimp only
        rw [if_pos h]
    cases z
    · refine line_of hE hl hc cmd_outside (.inl rfl) cf_outside hcmd (out := [bs okL]) (ok := true) (.inl ⟨rfl, _, rfl, rfl⟩) (fun W' av' A n c hn ha hst hsl => ?_)
      subst hn
      exact outside_any w0 R s av' A c _ _ _ true W' hst ha hsl (by omega) (.inl ⟨rfl, ⟨hok.2.2, h⟩, rfl⟩)
    · refine line_of hE hl hc cmd_inside (.inl rfl) cf_inside hcmd (out := [bs okL]) (ok := true) (.inl ⟨rfl, _, rfl, rfl⟩) (fun W' av' A n c hn ha hst hsl => ?_)
      subst hn
      exact inside_any w0 R s av' A c _ _ _ true W' hst ha hsl (by omega) (.inl ⟨rfl, ⟨hok.2.2, h⟩, rfl⟩)
  · have hcmd : cmdC s (kindL z) ([x, y].map numL) = some (s, none) := by
      cases z
      · unfold cmdC
        rw [if_neg (by decide), if_neg (by decide), if_neg (by decide), if_neg (by decide), if_neg (by decide), if_neg (by decide), if_neg (by decide), if_neg (by decide), if_neg (by decide), if_pos rfl]
        show seatC s _ [numL x, numL y] = _; unfold seatC; dsimp only
        rw [if_neg h]
      · unfold cmdC
        rw [if_neg (by decide), if_neg (by decide), if_neg (by decide), if_neg (by decide), if_neg (by decide), if_neg (by decide), if_neg (by decide), if_neg (by decide), if_pos rfl]
        show seatC s _ [numL x, numL y] = _; unfold seatC; dsimp only
        rw [if_neg h]
    cases z
    · refine line_of hE hl hc cmd_outside (.inl rfl) cf_outside hcmd (out := [bs okL]) (ok := false) (.inr ⟨rfl, rfl⟩) (fun W' av' A n c hn ha hst hsl => ?_)
      subst hn
      exact outside_any w0 R s av' A c _ _ _ false W' hst ha hsl (by omega) (.inr ⟨rfl, fun hh => h hh.2, rfl⟩)
    · refine line_of hE hl hc cmd_inside (.inl rfl) cf_inside hcmd (out := [bs okL]) (ok := false) (.inr ⟨rfl, rfl⟩) (fun W' av' A n c hn ha hst hsl => ?_)
      subst hn
      exact inside_any w0 R s av' A c _ _ _ false W' hst ha hsl (by omega) (.inr ⟨rfl, fun hh => h hh.2, rfl⟩)
theorem line_seats (hE : Env w0) (hok : StOk s) (hl : l.length ≤ 1000) (hc : cutL 32 l = [seatsL]) : LineDoes w0 R s l := by
  have h16 := hok.2.2.2.2.1
  refine line_of hE hl hc cmd_seats (.inl rfl) cf_seats (s' := s) (o := some [spacedL (plan s.list 5)]) (out := [bs (spacedL (plan s.list 5))]) (ok := true) ?_ (.inl ⟨rfl, _, rfl, rfl⟩) (fun W' av' A n c hn ha hst hsl => ?_)
  · unfold cmdC
    rw [if_neg (by decide), if_neg (by decide), if_neg (by decide), if_neg (by decide), if_neg (by decide), if_neg (by decide), if_neg (by decide), if_neg (by decide), if_neg (by decide), if_neg (by decide), if_pos rfl]
    show seatsC s [] = _; unfold seatsC; dsimp only
    rw [if_pos hok.2.2]
  · exact seats_any w0 R s av' A n c _ true W' hst (by omega) (.inl ⟨rfl, hok.2.2, rfl⟩)
/-- A line that is none. -/
theorem line_none (hE : Env w0) (hl : l.length ≤ 1000) {wd : List UInt8} {ws : List (List UInt8)} (hc : cutL 32 l = wd :: ws) (hp : ∀ W, Below w0.heap.size w0 W → Calls Tryz.prog 67 #[.string (bs l)] W (ParseNo (ws.length + 1) W)) (hcmd : cmdC s wd (ws.map numL) = none) : LineDoes w0 R s l := fun W av hst ha => by
  obtain ⟨e1, e2⟩ := ans_of hc hcmd
  rw [e1, e2]
  exact obey_what w0 R s av (bs l) _ W hst ha (fun W' hW' => hp W' (hst.2.2.1.trans (hW'.mono hst.2.2.1.size)))
theorem line_unknown (hE : Env w0) (hl : l.length ≤ 1000) {wd : List UInt8} {ws : List (List UInt8)} (hc : cutL 32 l = wd :: ws) (hn : cmdOf (bs wd) = none) (hcmd : cmdC s wd (ws.map numL) = none) : LineDoes w0 R s l :=
  line_none hE hl hc (fun W hW => parse_none (bs l) wd ws W (hE.later hW) (by rw [bs_size]; exact hl) hc hn) hcmd
theorem line_unfit (hE : Env w0) (hl : l.length ≤ 1000) {wd : List UInt8} {ws : List (List UInt8)} {nw : Int} {k : Nat} (hc : cutL 32 l = wd :: ws) (hn : cmdOf (bs wd) = some (nw, k)) (hf : ¬ Fits nw ws.length) (hcmd : cmdC s wd (ws.map numL) = none) : LineDoes w0 R s l :=
  line_none hE hl hc (fun W hW => parse_unfit (bs l) wd ws nw k W (hE.later hW) (by rw [bs_size]; exact hl) hc hn hf) hcmd
end
end Go.Proofs.YtgjllminidlolaaGreatDoor
/- Contracts: a script whose lines are all obeyed as the plain law says. -/
set_option linter.unusedVariables false
namespace Go.Proofs.YtgjllminidlolaaGreatDoor
open Go.RowKit

/-! ### What is told is short -/
def OutBd (o : List (List UInt8)) : Prop := o.length ≤ 6 ∧ ∀ x ∈ o, x.length ≤ 200
theorem outBd_one {x : List UInt8} (h : x.length ≤ 200) : OutBd [x] := ⟨by simp, fun y hy => by rw [List.mem_singleton.1 hy]; exact h⟩
theorem outBd_what : OutBd (ansOut none) := outBd_one (by decide)
theorem outBd_no (s : LSt) : OutBd (ansOut (some (s, none))) := outBd_one (by decide)
theorem stopsL_len {n : Int} {xs : List T3} (h : StopsOk n xs) : (stopsL xs).length ≤ 200 := by
  have h1 := join_le [32] 13 (xs.map stopL) (fun l hl => by
    obtain ⟨p, _, rfl⟩ := List.mem_map.1 hl
    simp [stopL, clockL])
  have h2 := h.2.2.2.1
  rw [List.length_map] at h1
  unfold stopsL
  simp only [List.length_singleton] at h1
  omega
theorem decI_len {x : Int} (h : x ≤ 10000) : (decI x).length ≤ 5 := decDigits_len 5 x.toNat (by omega) (by omega)
theorem rideL_len {r : T3} (h : 0 ≤ r.a ∧ r.a < 6 ∧ 0 ≤ r.b ∧ r.b < r.c ∧ r.c < 8) : (rideL r).length ≤ 5 := by
  have h1 : (decI r.a).length ≤ 1 := decDigits_len 1 _ (by omega) (by omega)
  have h2 : (decI r.b).length ≤ 1 := decDigits_len 1 _ (by omega) (by omega)
  have h3 : (decI r.c).length ≤ 1 := decDigits_len 1 _ (by omega) (by omega)
  unfold rideL
  simp only [List.length_append, List.length_cons]
  omega
theorem ridesL_len (net : List (List T3)) (s0 tw t0 ch : Int) : (ridesL (rideV 6 net s0 tw t0 ch)).length ≤ 200 := by
  have h0 : (rideV 6 net s0 tw t0 ch).length ≤ 8 ∧ ∀ r ∈ rideV 6 net s0 tw t0 ch, 0 ≤ r.a ∧ r.a < 6 ∧ 0 ≤ r.b ∧ r.b < r.c ∧ r.c < 8 := rideV_facts (n := 6)
  have h1 := join_le [32] 5 ((rideV 6 net s0 tw t0 ch).map rideL) (fun l hl => by
    obtain ⟨r, hr, rfl⟩ := List.mem_map.1 hl
    exact rideL_len (h0.2 r hr))
  rw [List.length_map] at h1
  unfold ridesL
  simp only [List.length_singleton] at h1
  have := h0.1
  omega
theorem plan_small {xs : List B3} (h : BookOk 5 xs) : (spacedL (plan xs 5)).length ≤ 200 := by
  have h1 := spaced_le (ns := plan xs 5) (fun x hx => by
    refine ⟨plan_nonneg (n := 5) h x hx, ?_⟩
    obtain ⟨k, hk⟩ := List.getElem?_of_mem hx
    have hkl : k < xs.length := by
      have := (List.getElem?_eq_some_iff.1 hk).1
      rw [plan_len h] at this
      exact this
    have h1 := (plan_all (n := 5) h).2 k _ x (List.getElem?_eq_getElem hkl) hk
    have h2 := (taken_bd xs (xs[k]).a (xs[k]).c).2
    have h3 := h.2.2.1
    omega)
  have h2 := h.2.2.1
  rw [plan_len h] at h1
  omega
theorem way_small (xs : List T3) (a b : Int) : (spacedL (wayV 6 xs a b)).length ≤ 200 := by
  by_cases h : 0 ≤ farV 6 xs a b
  · have h1 := spaced_le (ns := wayV 6 xs a b) (fun x hx => by have := wayV_mem h x hx; omega)
    have h2 := (wayV_len h).2
    omega
  · rw [wayV_no (by omega)]
    decide
theorem outBd_if {p : Prop} {d : Decidable p} {s s' : LSt} {o : List (List UInt8)} (h : OutBd o) : OutBd (ansOut (some (if p then (s', some o) else (s, none)))) := by
  by_cases hp : p
  · rw [if_pos hp]; exact h
  · rw [if_neg hp]; exact outBd_no s
theorem outBd_if2 {p : Prop} {d : Decidable p} {s : LSt} {o : List (List UInt8)} (h : p → OutBd o) : OutBd (ansOut (some (s, if p then some o else none))) := by
  by_cases hp : p
  · rw [if_pos hp]; exact h hp
  · rw [if_neg hp]; exact outBd_no s
theorem cmd_bd {s : LSt} (hs : StOk s) (wd : List UInt8) (ns : List Int) : OutBd (ansOut (cmdC s wd ns)) := by
  obtain ⟨h1, h2, h3⟩ := hs
  have hk : OutBd [okL] := outBd_one (by decide)
  unfold cmdC
  repeat' split
  · unfold roadC; split
    · exact outBd_if hk
    · exact outBd_what
  · unfold closeC; split
    · exact outBd_if hk
    · exact outBd_what
  · unfold farC; split
    · exact outBd_if2 (fun _ => outBd_one (Nat.le_trans (decI_len (Int.le_trans (farV_bd 6 s.roads _ _).2 (by decide))) (by decide)))
    · exact outBd_what
  · unfold wayC; split
    · exact outBd_if2 (fun _ => outBd_one (way_small _ _ _))
    · exact outBd_what
  · unfold coachC; split
    · exact outBd_if hk
    · exact outBd_what
  · unfold coachesC; split
    · refine ⟨by show (s.net.map stopsL).length ≤ 6; rw [List.length_map]; exact h2.2.2.1, fun x hx => ?_⟩
      obtain ⟨xs, hxs, rfl⟩ := List.mem_map.1 (show x ∈ s.net.map stopsL from hx)
      exact stopsL_len (h2.2.2.2 xs hxs)
    · exact outBd_what
  · unfold postC; split
    · exact outBd_if2 (fun _ => outBd_one (Nat.le_trans (decI_len (postV_bd 6 s.net _ _ _ _).2) (by decide)))
    · exact outBd_what
  · unfold rideC; split
    · exact outBd_if2 (fun _ => outBd_one (ridesL_len _ _ _ _ _))
    · exact outBd_what
  · unfold seatC; split
    · exact outBd_if hk
    · exact outBd_what
  · unfold seatC; split
    · exact outBd_if hk
    · exact outBd_what
  · unfold seatsC; split
    · exact outBd_if2 (fun h => outBd_one (plan_small h))
    · exact outBd_what
  · exact outBd_what
theorem step_bd {s : LSt} (hs : StOk s) (l : List UInt8) : OutBd (stepO s l) := by
  unfold stepO ansL
  split
  · exact outBd_what
  · exact cmd_bd hs _ _
theorem scrO_bd (ls : List (List UInt8)) (j : Nat) : OutBd (scrO ls j) := by
  unfold scrO
  split
  · exact step_bd (scr_ok ls j) _
  · exact ⟨by simp, fun x hx => by simp at hx⟩
/-- What so many lines tell. -/
noncomputable def scrT (ls : List (List UInt8)) : Nat → List (List UInt8)
  | 0 => []
  | j + 1 => scrT ls j ++ scrO ls j
theorem scrT_told (ls : List (List UInt8)) : ∀ j, told (fun j => (scrO ls j).map bs) j = (scrT ls j).map bs
  | 0 => rfl
  | j + 1 => by rw [told, scrT_told ls j, scrT, List.map_append]
theorem scrT_bd (ls : List (List UInt8)) : ∀ j, (scrT ls j).length ≤ 6 * j ∧ ∀ x ∈ scrT ls j, x.length ≤ 200
  | 0 => ⟨by simp [scrT], fun x hx => by simp [scrT] at hx⟩
  | j + 1 => by
    have ih := scrT_bd ls j
    have h := scrO_bd ls j
    rw [scrT]
    refine ⟨by rw [List.length_append]; have := h.1; omega, fun x hx => ?_⟩
    rcases List.mem_append.1 hx with hx | hx
    · exact ih.2 x hx
    · exact h.2 x hx
theorem scrT_far {ls : List (List UInt8)} {j : Nat} (h : ls.length ≤ j) : scrT ls j = scrT ls ls.length := by
  induction j with
  | zero => rw [show ls.length = 0 by omega]
  | succ j ih =>
    by_cases e : ls.length = j + 1
    · rw [e]
    · rw [scrT, ih (by omega)]
      unfold scrO
      rw [List.getElem?_eq_none (by omega)]
      simp
/-- The output of a script. -/
noncomputable def scriptOut (ls : List (List UInt8)) : List UInt8 :=
  textOf (scrT ls ls.length ++ [endL (scrS ls ls.length).roads.length (scrS ls ls.length).net.length (scrS ls ls.length).list.length])
theorem lines_go {w : World} {ls : List (List UInt8)} (hdo : ∀ (j : Nat) l, ls[j]? = some l → ∀ R, LineDoes w R (scrS ls j) l) : LinesGo w ls (scrS ls) (fun j => (scrO ls j).map bs) := fun j l hl W R av hst ha => by
  have h := hdo j l hl R W av hst ha
  rw [scrS_next hl]
  dsimp only
  rw [scrO_at hl]
  exact h
theorem cutL_size (c : UInt8) (s : ByteArray) : (cutL c s.data.toList).length ≤ s.size + 1 := by
  have h2 := Lib.countB_le (bs [c]) (by rw [bs_size]; simp) s.size s (Nat.le_refl _)
  have h3 := countB_cut c s
  omega
/-- A script is run. -/
theorem execute_script (s : ByteArray) (ls : List (List UInt8)) (last : List UInt8) (w : World) (hm : Env w) (hs : s.size ≤ 500) (hc : cutL 10 s.data.toList = ls ++ [last]) (hdo : ∀ (j : Nat) l, ls[j]? = some l → ∀ R, LineDoes w R (scrS ls j) l) :
    Calls Tryz.prog 11 #[.string s] w (Only (.string (bs (scriptOut ls))) w) := by
  have hn := cutL_size 10 s
  rw [hc, List.length_append, List.length_singleton] at hn
  have hok := scr_ok ls ls.length
  have h16 := hok.1.2.2.1
  have h6 := hok.2.1.2.2.1
  have hb16 := hok.2.2.2.2.1
  have hT := scrT_bd ls ls.length
  have hE : ((scrT ls ls.length).map bs).map (·.data.toList) = scrT ls ls.length := by
    rw [List.map_map]
    exact List.map_id _
  have h1 := execute_any s ls last (scrS ls) (fun j => (scrO ls j).map bs) w hm hs hc rfl (lines_go hdo)
    (fun j => by
      rw [scrT_told, List.length_map]
      rcases Nat.le_total j ls.length with h | h
      · have := (scrT_bd ls j).1; omega
      · rw [scrT_far h]; omega)
    ⟨by omega, by omega, by omega⟩
    (by
      rw [scrT_told, hE]
      have h2 := join_le [10] 200 (scrT ls ls.length ++ [endL (scrS ls ls.length).roads.length (scrS ls ls.length).net.length (scrS ls ls.length).list.length]) (fun l hl => by
        rcases List.mem_append.1 hl with h | h
        · exact hT.2 l h
        · rw [List.mem_singleton.1 h]
          exact Nat.le_trans (endL_len _ _ _ (by omega) (by omega) (by omega)) (by decide))
      rw [List.length_append, List.length_singleton, List.length_singleton] at h2
      omega)
  rw [scrT_told, hE] at h1
  unfold scriptOut
  rw [← join_lines _ (by simp)]
  exact h1
end Go.Proofs.YtgjllminidlolaaGreatDoor
/- How arguments that are slices of three-integer structs are read. -/
set_option linter.unusedVariables false
namespace Go.Proofs.YtgjllminidlolaaGreatDoor
open Go.ChangeShapes Go.WideShapes Go.ChangeAt Go.RowKit Go.Deep

theorem own : ownKnob Tryz.prog.godebug = none := by kernel_rfl
theorem laidOut : laidOutB Tryz.prog = true := by kernel_rfl

theorem addr_add (b off i : Nat) : (⟨b, off, none⟩ : Addr).add i = ⟨b, off + i, none⟩ := by
  unfold Addr.add
  split
  · rename_i h; subst h; rfl
  · rfl

/-- The cells of a struct of three integers. -/
theorem open_cells3 {H : Type} {enc : TypeId × Value → H} {P : Program} {w : World} {base : Nat} {spare : Nat → Bool} {held : Bool} {e : TypeId} {f0 f1 f2 : Field} {n : Nat} {cs : List Value} {x : DataW H × List MemPlace}
    (he : P.underlying e = some (.struct #[f0, f1, f2])) (hone : oneCellFields P #[f0, f1, f2] = true) (hC : P.cellsOf e = 3)
    (i0 : P.underlying f0.type = some (.int .i64)) (i1 : P.underlying f1.type = some (.int .i64)) (i2 : P.underlying f2.type = some (.int .i64))
    (h : DataW.trod enc P w base spare held n e cs = some x) : ∃ p : T3, cs = enc3 p ∧ (Lit.int .i64 p.a).wf = true ∧ (Lit.int .i64 p.b).wf = true ∧ (Lit.int .i64 p.c).wf = true := by
  obtain ⟨xs, m, _, _, hl, hxl, hf⟩ := DataW.trod_struct he h
  obtain ⟨o0, k0⟩ := hone_of hone 0 f0 rfl
  obtain ⟨o1, k1⟩ := hone_of hone 1 f1 rfl
  obtain ⟨o2, k2⟩ := hone_of hone 2 f2 rfl
  rw [hC] at hl
  match cs, hl, xs, hxl with
  | [c0, c1, c2], _, [y0, y1, y2], _ =>
    have h0 := hf 0 f0 rfl
    have h1 := hf 1 f1 rfl
    have h2 := hf 2 f2 rfl
    rw [o0, k0] at h0
    rw [o1, k1] at h1
    rw [o2, k2] at h2
    obtain ⟨a, ha, _, wa⟩ := DataW.trod_int i0 (x := y0) (cs := [c0]) h0
    obtain ⟨b, hb, _, wb⟩ := DataW.trod_int i1 (x := y1) (cs := [c1]) h1
    obtain ⟨c, hc, _, wc⟩ := DataW.trod_int i2 (x := y2) (cs := [c2]) h2
    injection ha with ha
    injection hb with hb
    injection hc with hc
    subst ha hb hc
    exact ⟨⟨a, b, c⟩, rfl, wa, wb, wc⟩

/-- A slice of structs of three integers reads as a list. -/
theorem open_slice3 {H : Type} {enc : TypeId × Value → H} {P : Program} {w : World} {base : Nat} {spare : Nat → Bool} {held : Bool} {t e : TypeId} {f0 f1 f2 : Field} {A : Option Addr} {len cap : Nat} {d : DataW H} {ps : List MemPlace}
    (ht : P.underlying t = some (.slice e)) (he : P.underlying e = some (.struct #[f0, f1, f2])) (hone : oneCellFields P #[f0, f1, f2] = true) (hC : P.cellsOf e = 3)
    (i0 : P.underlying f0.type = some (.int .i64)) (i1 : P.underlying f1.type = some (.int .i64)) (i2 : P.underlying f2.type = some (.int .i64))
    (h : DataW.Trod enc P w base spare held t (.slice A len cap) d ps) :
    ∃ xs : List T3, SlE 3 enc3 w A len xs ∧ len ≤ 9223372036854775807 ∧ ∀ p ∈ xs, (Lit.int .i64 p.a).wf = true ∧ (Lit.int .i64 p.b).wf = true ∧ (Lit.int .i64 p.c).wf = true := by
  obtain ⟨fuel, hf⟩ := h
  rcases open_slice ht hf with ⟨hcs, _⟩ | ⟨a, l, c, m, n, D, Pl, hcs, hb, hl, hm, hmm, hx, hi⟩
  · simp [Value.cells] at hcs
    obtain ⟨rfl, rfl, rfl⟩ := hcs
    exact ⟨[], ⟨rfl, fun h => absurd h (by omega)⟩, by omega, fun p hp => by simp at hp⟩
  · simp only [Value.cells, List.cons.injEq, Value.slice.injEq, and_true] at hcs
    obtain ⟨rfl, rfl, rfl⟩ := hcs
    have hlm : len ≤ m := by rw [hmm]; split <;> omega
    have key : ∀ i, i < len → ∃ p : T3, (∀ j u, (enc3 p)[j]? = some u → w.cell? (a.add (i * 3 + j)) = some u) ∧ (Lit.int .i64 p.a).wf = true ∧ (Lit.int .i64 p.b).wf = true ∧ (Lit.int .i64 p.c).wf = true := by
      intro i hil
      obtain ⟨cs', hcs', htr⟩ := hi i (by omega)
      obtain ⟨p, rfl, wf⟩ := open_cells3 he hone hC i0 i1 i2 htr
      rw [hC] at hcs'
      obtain ⟨_, _, hat⟩ := World.cells?_some hcs'
      refine ⟨p, fun j u hu => ?_, wf⟩
      have hj : j < 3 := by
        rcases Nat.lt_or_ge j 3 with h | h
        · exact h
        · rw [List.getElem?_eq_none (by rw [enc3_len]; exact h)] at hu; cases hu
      have := hat j hj
      rw [hu] at this
      rw [← this]
      unfold Addr.add
      by_cases h1 : i * 3 = 0
      · simp [h1]
      · by_cases h2 : j = 0
        · subst h2; simp
        · have h3 : i * 3 + j ≠ 0 := by omega
          simp [h1, h2, Nat.add_assoc]
    let f : Nat → T3 := fun i => if h : i < len then (key i h).choose else default
    have hfs : ∀ i (h : i < len), f i = (key i h).choose := fun i h => by simp [f, h]
    refine ⟨(List.range len).map f, ⟨by simp, fun hn => ?_⟩, by unfold maxLen at hm; omega, ?_⟩
    · have k0 := (key 0 hn).choose_spec.1 0 _ rfl
      obtain ⟨b, off, spot⟩ := a
      have hspot : spot = none := by have := World.cell?_spot k0; simpa [Addr.add] using this
      subst hspot
      refine ⟨b, off, rfl, by have := World.block_lt_of_cell? w _ k0; simpa [Addr.add] using this, fun j p hp i v hv => ?_⟩
      have hj : j < len := by
        rcases Nat.lt_or_ge j len with h | h
        · exact h
        · rw [List.getElem?_eq_none (by simpa using h)] at hp; cases hp
      simp only [List.getElem?_map, List.getElem?_range hj, Option.map_some, Option.some.injEq] at hp
      rw [hfs j hj] at hp
      subst hp
      have := (key j hj).choose_spec.1 i v hv
      rwa [addr_add] at this
    · intro p hp
      simp only [List.mem_map, List.mem_range] at hp
      obtain ⟨i, hil, rfl⟩ := hp
      rw [hfs i hil]
      exact (key i hil).choose_spec.2

/-- A struct of three integers that is handed by value. -/
theorem open_val3 {H : Type} {enc : TypeId × Value → H} {P : Program} {w W : World} {base b0 : Nat} {r : Reach} {spare : Nat → Bool} {held : Bool} {e : TypeId} {f0 f1 f2 : Field} {v : Value} {d : DataW H} {ps : List MemPlace}
    (he : P.underlying e = some (.struct #[f0, f1, f2])) (hone : oneCellFields P #[f0, f1, f2] = true) (hC : P.cellsOf e = 3)
    (i0 : P.underlying f0.type = some (.int .i64)) (i1 : P.underlying f1.type = some (.int .i64)) (i2 : P.underlying f2.type = some (.int .i64))
    (hv : Value.okWide P W r b0 e v) (h : DataW.Trod enc P w base spare held e v d ps) :
    ∃ p : T3, v = .agg #[.int .i64 p.a, .int .i64 p.b, .int .i64 p.c] ∧ (Lit.int .i64 p.a).wf = true ∧ (Lit.int .i64 p.b).wf = true ∧ (Lit.int .i64 p.c).wf = true := by
  obtain ⟨cs, rfl, hsz⟩ := okWide_struct he hv
  obtain ⟨fuel, hf⟩ := h
  have hc : (Value.agg cs).cells = cs := rfl
  rw [hc] at hf
  obtain ⟨p, hp, wf⟩ := open_cells3 he hone hC i0 i1 i2 hf
  refine ⟨p, ?_, wf⟩
  congr 1
  apply Array.toList_inj.1
  rw [hp]
  rfl
end Go.Proofs.YtgjllminidlolaaGreatDoor
/- How an argument that is a slice of bytes is read. -/
set_option linter.unusedVariables false
namespace Go.Proofs.YtgjllminidlolaaGreatDoor
open Go.ChangeShapes Go.WideShapes Go.ChangeAt Go.RowKit Go.Deep
/-- A slice of bytes reads as a list. -/
theorem open_sliceU {H : Type} {enc : TypeId × Value → H} {P : Program} {w : World} {base : Nat} {spare : Nat → Bool} {held : Bool} {t e : TypeId} {A : Option Addr} {len cap : Nat} {d : DataW H} {ps : List MemPlace}
    (ht : P.underlying t = some (.slice e)) (he : P.underlying e = some (.int .u8)) (hC : P.cellsOf e = 1)
    (h : DataW.Trod enc P w base spare held t (.slice A len cap) d ps) : ∃ xs : List Int, SlE 1 encU w A len xs ∧ Bytes xs ∧ len ≤ cap := by
  obtain ⟨fuel, hf⟩ := h
  rcases open_ints ht he hC hf with ⟨hcs, _⟩ | ⟨a, l, c, zs, hcs, hb, hl, hm, hz, _, hi, hw⟩
  · simp [Value.cells] at hcs
    obtain ⟨rfl, rfl, rfl⟩ := hcs
    exact ⟨[], ⟨rfl, fun h => absurd h (by omega)⟩, fun v hv => (by cases hv), by omega⟩
  · simp only [Value.cells, List.cons.injEq, Value.slice.injEq, and_true] at hcs
    obtain ⟨rfl, rfl, rfl⟩ := hcs
    have hlz : len ≤ zs.length := by rw [hz]; split <;> omega
    refine ⟨zs.take len, ⟨by rw [List.length_take]; omega, fun hn => ?_⟩, fun v hv => ?_, hl⟩
    · have k0 := hi 0 (by omega)
      obtain ⟨b, off, spot⟩ := a
      have hspot : spot = none := by have := World.cell?_spot k0; simpa [Addr.add] using this
      subst hspot
      refine ⟨b, off, rfl, by have := World.block_lt_of_cell? w _ k0; simpa [Addr.add] using this, fun j p hp i v hv => ?_⟩
      have hj : j < len := by
        rcases Nat.lt_or_ge j len with h | h
        · exact h
        · rw [List.getElem?_eq_none (by rw [List.length_take]; omega)] at hp; cases hp
      have h0 : i = 0 := by
        rcases i with _ | i
        · rfl
        · simp [encU] at hv
      subst h0
      simp only [encU, List.getElem?_cons_zero, Option.some.injEq] at hv
      subst hv
      have := hi j (by omega)
      rw [addr_add] at this
      have e0 : off + (j * 1 + 0) = off + j := by omega
      rw [e0, this]
      rw [List.getElem?_take, if_pos hj] at hp
      rw [List.getD_eq_getElem?_getD, hp]
      rfl
    · have := hw v (List.mem_of_mem_take hv)
      simp [Lit.wf, IntKind.min, IntKind.max, IntKind.bits, IntKind.signed] at this
      omega
end Go.Proofs.YtgjllminidlolaaGreatDoor
/- What the cards of this seat share: what is known of the library's variables when the call begins. -/
set_option linter.unusedVariables false
namespace Go.Proofs.YtgjllminidlolaaGreatDoor
open Go.ChangeShapes Go.WideShapes Go.ChangeAt Go.RowKit

set_option maxRecDepth 100000 in
theorem env_of {W : World} (h : W.ShapedOpen Tryz.prog) (ht : Lib.TabIs Tryz.prog W "internal/strconv.uint64pow10" .u64 Lib.pow10Tab) : Env W := by
  obtain ⟨m, hm⟩ := cell_of_shapedOpen_int (P := Tryz.prog) (w := W) (g := 0) (t := 3) (zero := #[.int .i64 0]) (k := .i64) h (of_decide_eq_true (by kernel_rfl)) (by kernel_rfl) rfl (by kernel_rfl) (by kernel_rfl) Tryz.underlying3
  exact ⟨World.block_lt_of_cell? W _ hm, ⟨m, hm⟩, ht⟩
theorem tab_of {W : World} (h : laidMetH Tryz.prog Rows.fnExecuteSeatsRow.laid W) : Lib.TabIs Tryz.prog W "internal/strconv.uint64pow10" .u64 Lib.pow10Tab := by
  rw [MakeChecks.laidMetH_plain _ _ _ (by kernel_rfl)] at h
  exact Lib.tabIs_of_head (g := 3) (t := 264) (e := 222) (n := 20) (by kernel_rfl) (by kernel_rfl) Tryz.underlying264 Tryz.underlying222 (by kernel_rfl) (by kernel_rfl) (laidMet.tail (laidMet.tail h))
end Go.Proofs.YtgjllminidlolaaGreatDoor
