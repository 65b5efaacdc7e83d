/- Texts of mine in one: PWalkA PWalkB PWalkD. -/
import Derived.Test.YtgjllminidlolaaGreatDoorVAD
import Derived.Test.YtgjllminidlolaaGreatDoorVAE
import Derived.Test.YtgjllminidlolaaGreatDoorVAA
import Derived.Deep.QuietTactic
import Derived.BigQuiet
import Derived.Test.YtgjllminidlolaaGreatDoorVAN
/- Contracts: timetables: StopsValid of both, linkStops. -/
set_option linter.unusedVariables false
namespace Go.Proofs.YtgjllminidlolaaGreatDoor
open Go.RowKit

set_option maxRecDepth 20000 in
set_option maxHeartbeats 3200000 in
theorem specStopsValid_any (A : Option Addr) (n : Int) (len cap : Nat) (xs : List T3) (w : World) (h : SlE 3 enc3 w A len xs) (hn : len ≤ 16777216) (h1 : -1000000 ≤ n) (h2 : n ≤ 1000000) :
    Calls Tryz.prog 165 #[.int .i64 n, .slice A len cap] w (OnlyB (StopsOk n xs) w) := by
  have H := Lib.hid h
  have hxl := h.len
  have HL := Lib.hid hxl
  clear h hxl
  by_cases hr : 1 ≤ n ∧ n ≤ 8
  rotate_left
  · go_enter Tryz.func165, Tryz.ntmps165
    go_wp2_with (go_at_call 62; refine (l6In_any _ _ _ _).mono ?_; intro e w2 hp; obtain ⟨rfl, rfl⟩ := hp.no hr)
    go_ret
    exact onlyB_false (fun hB => hr ⟨hB.1, hB.2.1⟩) (Below.refl _ _)
  obtain ⟨hr1, hr2⟩ := hr
  by_cases hm : 2 ≤ (len : Int) ∧ (len : Int) ≤ 8
  rotate_left
  · go_enter Tryz.func165, Tryz.ntmps165
    go_wp2_with fail
    refine (l6In_any _ _ _ _).mono ?_
    intro e w2 hp
    obtain ⟨rfl, rfl⟩ := hp.yes ⟨hr1, hr2⟩
    clear hp
    go_wp2_with fail
    refine (l6In_any _ _ _ _).mono ?_
    intro e w2 hp
    obtain ⟨rfl, rfl⟩ := hp.no hm
    clear hp
    go_wp2_with fail
    go_ret
    exact onlyB_false (fun hB => hm (by have h3 := hB.2.2.1; have h4 := hB.2.2.2.1; rw [HL.out] at h3 h4; omega)) (Below.refl _ _)
  go_enter Tryz.func165, Tryz.ntmps165
  go_wp2_with fail
  refine (l6In_any _ _ _ _).mono ?_
  intro e w2 hp
  obtain ⟨rfl, rfl⟩ := hp.yes ⟨hr1, hr2⟩
  clear hp
  go_wp2_with fail
  refine (l6In_any _ _ _ _).mono ?_
  intro e w2 hp
  obtain ⟨rfl, rfl⟩ := hp.yes hm
  clear hp
  go_wp2_with fail
  go_loopw [5, 6, 7, 8] (fun l i _ _ wr => ∃ j : Nat, j ≤ len ∧ i = .int .i64 j ∧ l = .int .i64 (lastC xs j) ∧ SPre n xs j ∧ Below w.heap.size w wr) (fun _ i _ _ _ => len - (intOf i).toNat)
  case atStart => exact ⟨0, by omega, rfl, rfl, spre_nil n xs, Below.refl _ _⟩
  case round =>
    obtain ⟨j, hj, rfl, rfl, hpre, hbr⟩ := hrel
    have HR := Lib.hid hbr
    have HP := Lib.hid hpre
    have hlb := lastC_bd hpre (by rw [HL.out]; exact hj)
    clear hbr hpre
    obtain ⟨l, hl⟩ : ∃ l, lastC xs j = l := ⟨_, rfl⟩
    rw [hl] at hlb ⊢
    have HLC := Lib.hid hl
    clear hl
    by_cases hlt : j < len
    rotate_left
    · obtain rfl : j = len := by omega
      go_wp2_with fail
      go_ret
      exact onlyB_true ((stops_iff n xs).2 ⟨⟨hr1, hr2⟩, by rw [HL.out]; omega, by rw [HL.out]; exact HP.out⟩) HR.out
    obtain ⟨b, off, x, y, z, rfl, hbl, hx, hd, g0, g1, g2⟩ := at3 H.out HR.out hlt
    have HX := Lib.hid hx
    have HBX := Lib.hid (below_alloc HR.out (.cells #[.int .i64 x, .int .i64 y, .int .i64 z] 103))
    clear hd hx
    by_cases k1 : 0 ≤ x ∧ x ≤ n - 1
    rotate_left
    · have HK := Lib.hid (stops_bad HX.out (n := n) (fun h => k1 (by unfold OkS at h; dsimp only at h; omega)))
      go_wp2_with fail
      refine (l6In_any _ _ _ _).mono ?_
      intro e w2 hp
      obtain ⟨rfl, rfl⟩ := hp.no k1
      clear hp
      go_wp2_with fail
      go_ret
      exact onlyB_false HK.out HBX.out
    by_cases k2 : l + 1 ≤ y ∧ y ≤ 10000
    rotate_left
    · have HK := Lib.hid (show ¬ StopsOk n xs from by
        by_cases hy : y ≤ l
        · exact stops_late HX.out (by rw [HLC.out]; exact hy)
        · exact stops_bad HX.out (fun h => k2 (by unfold OkS at h; dsimp only at h; omega)))
      go_wp2_with fail
      refine (l6In_any _ _ _ _).mono ?_
      intro e w2 hp
      obtain ⟨rfl, rfl⟩ := hp.yes k1
      clear hp
      go_wp2_with fail
      refine (l6In_any _ _ _ _).mono ?_
      intro e w2 hp
      obtain ⟨rfl, rfl⟩ := hp.no k2
      clear hp
      go_wp2_with fail
      go_ret
      exact onlyB_false HK.out HBX.out
    by_cases k3 : y ≤ z ∧ z ≤ 10000
    rotate_left
    · have HK := Lib.hid (stops_bad HX.out (n := n) (fun h => k3 (by unfold OkS at h; dsimp only at h; omega)))
      go_wp2_with fail
      refine (l6In_any _ _ _ _).mono ?_
      intro e w2 hp
      obtain ⟨rfl, rfl⟩ := hp.yes k1
      clear hp
      go_wp2_with fail
      refine (l6In_any _ _ _ _).mono ?_
      intro e w2 hp
      obtain ⟨rfl, rfl⟩ := hp.yes k2
      clear hp
      go_wp2_with fail
      refine (l6In_any _ _ _ _).mono ?_
      intro e w2 hp
      obtain ⟨rfl, rfl⟩ := hp.no k3
      clear hp
      go_wp2_with fail
      go_ret
      exact onlyB_false HK.out HBX.out
    have HO := Lib.hid (show OkS n ⟨x, y, z⟩ from by unfold OkS; dsimp only; omega)
    go_wp2_with fail
    refine (l6In_any _ _ _ _).mono ?_
    intro e w2 hp
    obtain ⟨rfl, rfl⟩ := hp.yes k1
    clear hp
    go_wp2_with fail
    refine (l6In_any _ _ _ _).mono ?_
    intro e w2 hp
    obtain ⟨rfl, rfl⟩ := hp.yes k2
    clear hp
    go_wp2_with fail
    refine (l6In_any _ _ _ _).mono ?_
    intro e w2 hp
    obtain ⟨rfl, rfl⟩ := hp.yes k3
    clear hp
    have hc : ∀ W, Below (wr.alloc (.cells #[.int .i64 x, .int .i64 y, .int .i64 z] 103)).heap.size (wr.alloc (.cells #[.int .i64 x, .int .i64 y, .int .i64 z] 103)) W → W.cell? ⟨wr.heap.size, 0, none⟩ = some (.int .i64 x) ∧ W.cell? ⟨wr.heap.size, 2, none⟩ = some (.int .i64 z) := by
      intro W hW
      have hr : ∀ j, W.cell? ⟨wr.heap.size, j, none⟩ = (#[.int .i64 x, .int .i64 y, .int .i64 z] : Array Value)[j]? := fun j => by
        rw [hW.cell (p := ⟨wr.heap.size, j, none⟩) (by simp)]
        exact cell_of_row _ _ j _ 103 (0, 0) (heap_alloc_new wr _)
      exact ⟨hr 0, hr 2⟩
    have HC := Lib.hid hc
    clear hc
    obtain ⟨w0, rfl⟩ : ∃ w0, w0 = wr := ⟨_, rfl⟩
    go_wp2_with fail
    go_loopw [8] (fun i wr => ∃ k : Nat, k ≤ j ∧ i = .int .i64 k ∧ NotYet (fun q => q.a = x) xs k ∧ Below (w0.alloc (.cells #[.int .i64 x, .int .i64 y, .int .i64 z] 103)).heap.size (w0.alloc (.cells #[.int .i64 x, .int .i64 y, .int .i64 z] 103)) wr) (fun i _ => j - (intOf i).toNat)
    case atStart => exact ⟨0, by omega, rfl, notYet_nil _ _, Below.refl _ _⟩
    case round =>
      obtain ⟨k, hk, rfl, htw, hbr⟩ := hrel
      have HT := Lib.hid htw
      have HR2 := Lib.hid hbr
      have HB2 := Lib.hid (below_trans HBX.out hbr)
      clear htw hbr
      obtain ⟨q0, q2⟩ := HC.out _ HR2.out
      by_cases hkj : k < j
      · have hkl : k < len := by omega
        obtain ⟨b', off', u, v, t, he, hbl', hx', hd', f0, f1, f2⟩ := at3 H.out HB2.out hkl
        simp only [Option.some.injEq, Addr.mk.injEq, and_true] at he
        obtain ⟨rfl, rfl⟩ := he
        have HX' := Lib.hid hx'
        clear hd' hx' g0 g1 g2
        by_cases e1 : u = x
        · have d1 : (u == x) = true := by simpa using e1
          have HD := Lib.hid (stops_twin (n := n) hkj HX'.out HX.out e1)
          clear e1
          go_wp2_with fail
          go_quiet (fail)
          go_wp2_with fail
          go_ret
          exact onlyB_false HD.out (bl_drewN HB2.out _)
        · have d1 : (u == x) = false := by simpa using e1
          have HTW := Lib.hid (notYet_next HT.out HX'.out e1)
          clear e1
          go_wp2_with fail
          go_quiet (fail)
          go_wp2_with fail
          go_roundw
          case rel => exact ⟨k + 1, by omega, by go_num, HTW.out, bl_drewN HR2.out _⟩
          case measure => simp [intOf]; omega
      · obtain rfl : k = j := by omega
        have HN := Lib.hid (spre_next HP.out HX.out HO.out (by rw [HLC.out]; dsimp only; omega) HT.out)
        have HLN := Lib.hid (lastC_next HX.out)
        go_wp2_with fail
        go_roundw
        case rel => exact ⟨k + 1, by omega, by go_num, by rw [HLN.out], HN.out, HB2.out⟩
        case measure => simp [intOf]; omega
end Go.Proofs.YtgjllminidlolaaGreatDoor
/- Contracts: linkStops: the linked list of a timetable; StopsValid of the program. -/
set_option linter.unusedVariables false
namespace Go.Proofs.YtgjllminidlolaaGreatDoor
open Go.RowKit

theorem stops_seen {n : Int} {xs : List T3} {k : Nat} {p : T3} (hp : xs[k]? = some p) (h : ¬ NotYet (fun q => q.a = p.a) xs k) : ¬ StopsOk n xs := fun hs => h fun i q hi hq he => stops_twin hi hq hp he hs
/-! ### The nodes of a timetable in memory: the node of stop j lies at block B + 2 (j + 1) -/
def nxtV (B k j : Nat) : Value := .pointer (if j < k then some ⟨B + 2 * (j + 1), 0, none⟩ else none)
structure LinkAt (W : World) (B : Nat) (xs : List T3) (k : Nat) : Prop where
  size : W.heap.size = B + 1 + 2 * k
  next : ∀ j, j ≤ k → W.cell? ⟨B + 2 * j, 3, none⟩ = some (nxtV B k j)
  frz : ∀ j, j ≤ k → W.frozen? ⟨B + 2 * j, 3, none⟩ = false
  stop : ∀ (j : Nat) p, j < k → xs[j]? = some p → W.cell? ⟨B + 2 * (j + 1), 0, none⟩ = some (.int .i64 p.a) ∧ W.cell? ⟨B + 2 * (j + 1), 1, none⟩ = some (.int .i64 p.b) ∧ W.cell? ⟨B + 2 * (j + 1), 2, none⟩ = some (.int .i64 p.c)
theorem link_start (w : World) (xs : List T3) (T : TypeId) : LinkAt (w.alloc (.cells #[.int .i64 0, .int .i64 0, .int .i64 0, .pointer none] T)) w.heap.size xs 0 := by
  refine ⟨by simp, fun j hj => ?_, fun j hj => ?_, fun j p h => absurd h (by omega)⟩
  · obtain rfl : j = 0 := by omega
    simp [nxtV]
  · obtain rfl : j = 0 := by omega
    simp
theorem link_next {W : World} {B k : Nat} {xs : List T3} {p : T3} (h : LinkAt W B xs k) (hp : xs[k]? = some p) (o : Obj) (T : TypeId) :
    LinkAt (((W.setCell ⟨B + 2 * k, 3, none⟩ (.pointer (some ⟨W.heap.size + 1, 0, none⟩))).alloc o).alloc (.cells #[.int .i64 p.a, .int .i64 p.b, .int .i64 p.c, .pointer none] T)) B xs (k + 1) := by
  have hs := h.size
  obtain ⟨V, hV⟩ : ∃ V, V = W.setCell ⟨B + 2 * k, 3, none⟩ (.pointer (some ⟨W.heap.size + 1, 0, none⟩)) := ⟨_, rfl⟩
  rw [← hV]
  have z0 : V.heap.size = W.heap.size := by rw [hV]; simp [World.setCell]
  have z1 : (V.alloc o).heap.size = W.heap.size + 1 := by rw [← z0]; simp
  have z2 : ((V.alloc o).alloc (.cells #[.int .i64 p.a, .int .i64 p.b, .int .i64 p.c, .pointer none] T)).heap.size = W.heap.size + 2 := by rw [← z0]; simp
  have hnew : ∀ i, ((V.alloc o).alloc (.cells #[.int .i64 p.a, .int .i64 p.b, .int .i64 p.c, .pointer none] T)).cell? ⟨W.heap.size + 1, i, none⟩ = (#[.int .i64 p.a, .int .i64 p.b, .int .i64 p.c, .pointer none] : Array Value)[i]? := fun i => by
    rw [← z1]
    exact cell_of_row _ _ i _ T (0, 0) (heap_alloc_new (V.alloc o) _)
  have hfn : ∀ i, ((V.alloc o).alloc (.cells #[.int .i64 p.a, .int .i64 p.b, .int .i64 p.c, .pointer none] T)).frozen? ⟨W.heap.size + 1, i, none⟩ = false := fun i => by
    rw [← z1]
    simp
  have hold : ∀ b i, b < W.heap.size → ((V.alloc o).alloc (.cells #[.int .i64 p.a, .int .i64 p.b, .int .i64 p.c, .pointer none] T)).cell? ⟨b, i, none⟩ = V.cell? ⟨b, i, none⟩ := fun b i hb => by
    rw [World.cell?_alloc_lt _ _ _ (by rw [z1]; show b < _; omega), World.cell?_alloc_lt _ _ _ (by rw [z0]; exact hb)]
  have hfo : ∀ b i, b < W.heap.size → ((V.alloc o).alloc (.cells #[.int .i64 p.a, .int .i64 p.b, .int .i64 p.c, .pointer none] T)).frozen? ⟨b, i, none⟩ = W.frozen? ⟨b, i, none⟩ := fun b i hb => by
    have h2 := below_alloc (below_alloc (Below.refl V.heap.size V) o) (.cells #[.int .i64 p.a, .int .i64 p.b, .int .i64 p.c, .pointer none] T)
    rw [h2.frozen (by rw [z0]; exact hb), hV, World.frozen?_setCell]
  refine ⟨?_, fun j hj => ?_, fun j hj => ?_, fun j q hj hq => ?_⟩
  · rw [z2]
    omega
  · by_cases e : j = k + 1
    · subst e
      rw [show B + 2 * (k + 1) = W.heap.size + 1 by omega, hnew]
      simp [nxtV]
    · by_cases e2 : j = k
      · subst e2
        rw [hold _ _ (by omega), hV, World.cell?_setCell_same _ _ _ (h.next j (by omega))]
        unfold nxtV
        rw [if_pos (by omega), show B + 2 * (j + 1) = W.heap.size + 1 by omega]
      · rw [hold _ _ (by omega), hV, World.cell?_setCell_other _ _ _ _ (by simp <;> omega), h.next j (by omega)]
        unfold nxtV
        rw [if_pos (by omega), if_pos (by omega)]
  · by_cases e : j = k + 1
    · subst e
      rw [show B + 2 * (k + 1) = W.heap.size + 1 by omega]
      exact hfn 3
    · rw [hfo _ _ (by omega)]
      exact h.frz j (by omega)
  · by_cases e : j = k
    · subst e
      rw [hp] at hq
      injection hq with hq
      subst hq
      rw [show B + 2 * (j + 1) = W.heap.size + 1 by omega, hnew, hnew, hnew]
      exact ⟨rfl, rfl, rfl⟩
    · have hb : B + 2 * (j + 1) < W.heap.size := by omega
      rw [hold _ _ hb, hold _ _ hb, hold _ _ hb, hV, World.cell?_setCell_other _ _ _ _ (by simp), World.cell?_setCell_other _ _ _ _ (by simp), World.cell?_setCell_other _ _ _ _ (by simp)]
      exact h.stop j q (by omega) hq
/-- All nodes of a timetable. -/
def NodesAt (W : World) (B : Nat) (xs : List T3) : Prop :=
  ∀ (j : Nat) p, xs[j]? = some p → W.cell? ⟨B + 2 * (j + 1), 0, none⟩ = some (.int .i64 p.a) ∧ W.cell? ⟨B + 2 * (j + 1), 1, none⟩ = some (.int .i64 p.b) ∧ W.cell? ⟨B + 2 * (j + 1), 2, none⟩ = some (.int .i64 p.c) ∧ W.cell? ⟨B + 2 * (j + 1), 3, none⟩ = some (nxtV B xs.length (j + 1))
theorem LinkAt.nodes {W : World} {B : Nat} {xs : List T3} (h : LinkAt W B xs xs.length) : NodesAt W B xs := fun j p hp => by
  have hj := (List.getElem?_eq_some_iff.1 hp).1
  obtain ⟨h1, h2, h3⟩ := h.stop j p hj hp
  exact ⟨h1, h2, h3, h.next (j + 1) (by omega)⟩
theorem NodesAt.below {W W' : World} {B : Nat} {xs : List T3} (h : NodesAt W B xs) (hb : Below W.heap.size W W') : NodesAt W' B xs := fun j p hp => by
  obtain ⟨h1, h2, h3, h4⟩ := h j p hp
  have hc : ∀ {a : Addr} {v : Value}, W.cell? a = some v → W'.cell? a = some v := fun {a v} hv => by
    rw [hb.cell (World.block_lt_of_cell? W _ hv)]
    exact hv
  exact ⟨hc h1, hc h2, hc h3, hc h4⟩

set_option maxRecDepth 20000 in
set_option maxHeartbeats 400000 in
theorem timeValid_any (t : Int) (w : World) : Calls Tryz.prog 124 #[.int .i64 t] w (SameB (0 ≤ t ∧ t ≤ 10000) w) := by
  go_enter Tryz.func124, Tryz.ntmps124
  go_wp2
  all_goals
    go_ret
    exact ⟨_, rfl, by simp <;> omega, rfl⟩
/-- How linkStops ends. -/
def Linked (n : Int) (xs : List T3) (w : World) (e : Ending) (w' : World) : Prop :=
  Below w.heap.size w w' ∧ ((StopsOk n xs ∧ e = .returned (.pointer (some ⟨w.heap.size + 2, 0, none⟩)) ∧ NodesAt w' w.heap.size xs) ∨ (¬ StopsOk n xs ∧ e = .returned (.pointer none)))

set_option maxRecDepth 20000 in
set_option maxHeartbeats 6400000 in
theorem linkStops_any (A : Option Addr) (n : Int) (len cap : Nat) (xs : List T3) (w : World) (h : SlE 3 enc3 w A len xs) (hn : len ≤ 16777216) :
    Calls Tryz.prog 197 #[.int .i64 n, .slice A len cap] w (Linked n xs w) := by
  have H := Lib.hid h
  have hxl := h.len
  have HL := Lib.hid hxl
  clear h hxl
  by_cases hr : (1 ≤ n ∧ n ≤ 8) ∧ 2 ≤ len ∧ len ≤ 8
  rotate_left
  · have HN := Lib.hid (show ¬ StopsOk n xs from fun hB => hr (by have h1 := hB.1; have h2 := hB.2.1; have h3 := hB.2.2.1; have h4 := hB.2.2.2.1; rw [HL.out] at h3 h4; omega))
    by_cases c1 : n < 1
    · go_enter Tryz.func197, Tryz.ntmps197
      go_wp2_with fail
      go_ret
      exact ⟨Below.refl _ _, .inr ⟨HN.out, rfl⟩⟩
    by_cases c2 : 8 < n
    · go_enter Tryz.func197, Tryz.ntmps197
      go_wp2_with fail
      go_ret
      exact ⟨Below.refl _ _, .inr ⟨HN.out, rfl⟩⟩
    by_cases c3 : (len : Int) < 2
    · go_enter Tryz.func197, Tryz.ntmps197
      go_wp2_with fail
      go_ret
      exact ⟨Below.refl _ _, .inr ⟨HN.out, rfl⟩⟩
    have c4 : 8 < (len : Int) := by omega
    go_enter Tryz.func197, Tryz.ntmps197
    go_wp2_with fail
    go_ret
    exact ⟨Below.refl _ _, .inr ⟨HN.out, rfl⟩⟩
  obtain ⟨⟨r1, r2⟩, r3, r4⟩ := hr
  have HR0 := Lib.hid (And.intro (And.intro r1 r2) (And.intro r3 r4))
  have c1 : ¬ n < 1 := by omega
  have c2 : ¬ 8 < n := by omega
  have c3 : ¬ (len : Int) < 2 := by omega
  have c4 : ¬ 8 < (len : Int) := by omega
  go_enter Tryz.func197, Tryz.ntmps197
  go_wp2_with fail
  go_loopw [6, 7, 8, 32, 10] (fun p l m i _ wr => ∃ (k m' : Nat), k ≤ len ∧ i = .int .i64 k ∧ p = .pointer (some ⟨w.heap.size + 2 * k, 0, none⟩) ∧ l = .int .i64 (lastC xs k) ∧ m = .int .u64 m' ∧ MaskP m' xs k ∧ SPre n xs k ∧ LinkAt wr w.heap.size xs k ∧ Below w.heap.size w wr) (fun _ _ _ i _ _ => len - (intOf i).toNat)
  case atStart => exact ⟨0, 0, by omega, rfl, rfl, rfl, rfl, mask_nil xs, spre_nil n xs, link_start w xs _, below_alloc (Below.refl _ _) _⟩
  case round =>
    obtain ⟨k, m, hk, rfl, rfl, rfl, rfl, hm, hpre, hlk, hbr⟩ := hrel
    have HM := Lib.hid hm
    have HP := Lib.hid hpre
    have HK := Lib.hid hlk
    have HR := Lib.hid hbr
    have hlb := lastC_bd hpre (by rw [HL.out]; exact hk)
    clear hm hpre hlk hbr
    obtain ⟨l, hl⟩ : ∃ l, lastC xs k = l := ⟨_, rfl⟩
    rw [hl] at hlb ⊢
    have HLC := Lib.hid hl
    clear hl
    by_cases hlt : k < len
    rotate_left
    · obtain rfl : k = len := by omega
      have hnx := HK.out.next 0 (by omega)
      rw [Nat.mul_zero, Nat.add_zero] at hnx
      have HE := Lib.hid (show (nxtV w.heap.size k 0) = .pointer (some ⟨w.heap.size + 2, 0, none⟩) from by unfold nxtV; rw [if_pos (by omega)])
      rw [HE.out] at hnx
      have HKN := Lib.hid (show NodesAt wr w.heap.size xs from LinkAt.nodes (by rw [HL.out]; exact HK.out))
      have HS := Lib.hid ((stops_iff n xs).2 ⟨⟨r1, r2⟩, by rw [HL.out]; exact ⟨r3, r4⟩, by rw [HL.out]; exact HP.out⟩)
      go_wp2_with fail
      go_ret
      exact ⟨HR.out, .inl ⟨HS.out, rfl, HKN.out⟩⟩
    obtain ⟨b, off, x, y, z, rfl, hbl, hx, hd, g0, g1, g2⟩ := at3 H.out HR.out hlt
    have HX := Lib.hid hx
    have HBX := Lib.hid (below_alloc HR.out (.cells #[.int .i64 x, .int .i64 y, .int .i64 z] 103))
    clear hd hx
    by_cases k1 : x < 0
    · have HN := Lib.hid (stops_bad HX.out (n := n) (fun h => by unfold OkS at h; dsimp only at h; omega))
      go_wp2_with fail
      go_ret
      exact ⟨HBX.out, .inr ⟨HN.out, rfl⟩⟩
    by_cases k2 : n ≤ x
    · have HN := Lib.hid (stops_bad HX.out (n := n) (fun h => by unfold OkS at h; dsimp only at h; omega))
      go_wp2_with fail
      go_ret
      exact ⟨HBX.out, .inr ⟨HN.out, rfl⟩⟩
    obtain ⟨x, rfl⟩ : ∃ i : Nat, x = i := ⟨x.toNat, by omega⟩
    have hx8 : x < 8 := by omega
    have ew : IntKind.u64.wrap (2 ^ x) = ((2 ^ x : Nat) : Int) := by
      have : x = 0 ∨ x = 1 ∨ x = 2 ∨ x = 3 ∨ x = 4 ∨ x = 5 ∨ x = 6 ∨ x = 7 := by omega
      rcases this with rfl | rfl | rfl | rfl | rfl | rfl | rfl | rfl <;> rfl
    have hp8 : 2 ^ x < 1024 := Nat.lt_of_lt_of_le (Nat.pow_lt_pow_right (by omega) hx8) (by decide)
    have ea : bits .and .u64 (m : Int) (IntKind.u64.wrap (2 ^ x)) = ((m &&& 2 ^ x : Nat) : Int) := by rw [ew]; exact and_nat m (2 ^ x) (by have := HM.out.1; omega) hp8
    have eo : bits .or .u64 (m : Int) (IntKind.u64.wrap (2 ^ x)) = ((m ||| 2 ^ x : Nat) : Int) := by rw [ew]; exact or_nat m (2 ^ x) (by have := HM.out.1; omega) hp8
    clear ew hp8
    by_cases hs : m &&& 2 ^ x = 0
    rotate_left
    · have HN := Lib.hid (stops_seen (n := n) HX.out (fun h => hs ((mask_seen HM.out hx8).2 h)))
      have hg : (bits .and .u64 (m : Int) (IntKind.u64.wrap (2 ^ x)) != 0) = true := by rw [ea]; simp only [bne_iff_ne, ne_eq]; omega
      clear ea eo hs
      go_wp2_with fail
      go_ret
      exact ⟨HBX.out, .inr ⟨HN.out, rfl⟩⟩
    have HY := Lib.hid ((mask_seen HM.out hx8).1 hs)
    have hg : (bits .and .u64 (m : Int) (IntKind.u64.wrap (2 ^ x)) != 0) = false := by rw [ea, hs]; rfl
    clear ea hs
    by_cases k3 : 0 ≤ y ∧ y ≤ 10000
    rotate_left
    · have HN := Lib.hid (stops_bad HX.out (n := n) (fun h => by unfold OkS at h; dsimp only at h; omega))
      go_wp2_with fail
      refine (timeValid_any _ _).mono ?_
      intro e w2 hp
      obtain ⟨rfl, rfl⟩ := hp.no k3
      clear hp
      go_wp2_with fail
      go_ret
      exact ⟨HBX.out, .inr ⟨HN.out, rfl⟩⟩
    by_cases k4 : 0 ≤ z ∧ z ≤ 10000
    rotate_left
    · have HN := Lib.hid (stops_bad HX.out (n := n) (fun h => by unfold OkS at h; dsimp only at h; omega))
      go_wp2_with fail
      refine (timeValid_any _ _).mono ?_
      intro e w2 hp
      obtain ⟨rfl, rfl⟩ := hp.yes k3
      clear hp
      go_wp2_with fail
      refine (timeValid_any _ _).mono ?_
      intro e w2 hp
      obtain ⟨rfl, rfl⟩ := hp.no k4
      clear hp
      go_wp2_with fail
      go_ret
      exact ⟨HBX.out, .inr ⟨HN.out, rfl⟩⟩
    by_cases k5 : z < y
    · have HN := Lib.hid (stops_bad HX.out (n := n) (fun h => by unfold OkS at h; dsimp only at h; omega))
      go_wp2_with fail
      refine (timeValid_any _ _).mono ?_
      intro e w2 hp
      obtain ⟨rfl, rfl⟩ := hp.yes k3
      clear hp
      go_wp2_with fail
      refine (timeValid_any _ _).mono ?_
      intro e w2 hp
      obtain ⟨rfl, rfl⟩ := hp.yes k4
      clear hp
      go_wp2_with fail
      go_ret
      exact ⟨HBX.out, .inr ⟨HN.out, rfl⟩⟩
    by_cases k6 : y ≤ l
    · have HN := Lib.hid (stops_late (n := n) HX.out (by rw [HLC.out]; exact k6))
      go_wp2_with fail
      refine (timeValid_any _ _).mono ?_
      intro e w2 hp
      obtain ⟨rfl, rfl⟩ := hp.yes k3
      clear hp
      go_wp2_with fail
      refine (timeValid_any _ _).mono ?_
      intro e w2 hp
      obtain ⟨rfl, rfl⟩ := hp.yes k4
      clear hp
      go_wp2_with fail
      go_ret
      exact ⟨HBX.out, .inr ⟨HN.out, rfl⟩⟩
    have HO := Lib.hid (show OkS n ⟨(x : Int), y, z⟩ from by unfold OkS; dsimp only; omega)
    have HPN := Lib.hid (spre_next HP.out HX.out HO.out (by rw [HLC.out]; dsimp only; omega) HY.out)
    have HMN := Lib.hid (mask_next HM.out HX.out rfl hx8)
    have HLN := Lib.hid (lastC_next HX.out)
    have HKN := Lib.hid (link_next HK.out HX.out (.cells #[.int .i64 x, .int .i64 y, .int .i64 z] 103) 259)
    have hfr := HK.out.frz k (Nat.le_refl _)
    have hnx := HK.out.next k (Nat.le_refl _)
    have HSZ := Lib.hid HK.out.size
    have HBZ := Lib.hid (below_alloc (below_alloc (HR.out.setCell (p := ⟨w.heap.size + 2 * k, 3, none⟩) (Nat.le_add_right _ _) (.pointer (some ⟨wr.heap.size + 1, 0, none⟩))) (.cells #[.int .i64 x, .int .i64 y, .int .i64 z] 103)) (.cells #[.int .i64 x, .int .i64 y, .int .i64 z, .pointer none] 259))
    have hkl : w.heap.size + 2 * k < wr.heap.size := by rw [HSZ.out]; omega
    go_wp2_with fail
    refine (timeValid_any _ _).mono ?_
    intro e w2 hp
    obtain ⟨rfl, rfl⟩ := hp.yes k3
    clear hp
    go_wp2_with fail
    refine (timeValid_any _ _).mono ?_
    intro e w2 hp
    obtain ⟨rfl, rfl⟩ := hp.yes k4
    clear hp
    go_wp2_with fail
    go_roundw
    case rel => exact ⟨k + 1, m ||| 2 ^ x, by omega, by go_num, by rw [HSZ.out, show w.heap.size + 1 + 2 * k + 1 = w.heap.size + 2 * (k + 1) by omega], by rw [HLN.out], rfl, HMN.out, HPN.out, HKN.out, HBZ.out⟩
    case measure => simp [intOf]; omega
set_option maxRecDepth 20000 in
set_option maxHeartbeats 800000 in
/-- StopsValid of the program. -/
theorem implStopsValid_any (A : Option Addr) (n : Int) (len cap : Nat) (xs : List T3) (w : World) (h : SlE 3 enc3 w A len xs) (hn : len ≤ 16777216) :
    Calls Tryz.prog 166 #[.int .i64 n, .slice A len cap] w (OnlyB (StopsOk n xs) w) := by
  have HM := Lib.hid (linkStops_any A n len cap xs w h hn)
  clear h
  go_enter Tryz.func166, Tryz.ntmps166
  go_wp2_with fail
  refine HM.out.mono ?_
  rintro e w2 ⟨hb, ⟨hok, rfl, -⟩ | ⟨hno, rfl⟩⟩
  · have HB := Lib.hid hb
    have HK := Lib.hid hok
    clear hb hok
    go_wp2_with fail
    go_ret
    exact onlyB_true HK.out HB.out
  · have HB := Lib.hid hb
    have HK := Lib.hid hno
    clear hb hno
    go_wp2_with fail
    go_ret
    exact onlyB_false HK.out HB.out
end Go.Proofs.YtgjllminidlolaaGreatDoor
/- Contracts: the table of a letter: slices.IndexFunc over stops, canTake, reach. -/
set_option linter.unusedVariables false
namespace Go.Proofs.YtgjllminidlolaaGreatDoor
open Go.RowKit

set_option maxRecDepth 20000 in
set_option maxHeartbeats 800000 in
theorem indexRide_any (Q : T3 → Prop) (p1 : Value) (A : Option Addr) (n cap : Nat) (xs : List T3) (w : World) (h : SlE 3 enc3 w A n xs) (hn : n ≤ 16777216)
    (ht : ∀ W, Below w.heap.size w W → ∀ (j : Nat) x y z, xs[j]? = some ⟨x, y, z⟩ → Calls Tryz.prog 169 #[.agg #[.int .i64 x, .int .i64 y, .int .i64 z], p1] W (OnlyB (Q ⟨x, y, z⟩) W)) :
    Calls Tryz.prog 168 #[.slice A n cap, .func (.func 169) #[] #[p1]] w (FstRet Q xs w) := by
  have H := Lib.hid h
  have HT := Lib.hid ht
  clear h ht
  go_enter Tryz.func168, Tryz.ntmps168
  go_wp2
  go_loopw [8, 5] (fun i _ wr => ∃ k : Nat, k ≤ n ∧ i = .int .i64 k ∧ NotYet Q xs k ∧ Below w.heap.size w wr) (fun i _ _ => n - (intOf i).toNat)
  case atStart => exact ⟨0, by omega, rfl, notYet_nil Q xs, Below.refl _ _⟩
  case round =>
    obtain ⟨k, hk, rfl, hno, hbr⟩ := hrel
    have HR := Lib.hid hbr
    have HN := Lib.hid hno
    clear hno hbr
    by_cases hlt : k < n
    · obtain ⟨b, off, x, y, z, rfl, hbl, hx, hd, g0, g1, g2⟩ := at3 H.out HR.out hlt
      have HX := Lib.hid hx
      have HC := Lib.hid (HT.out _ HR.out k x y z hx)
      clear hx hd
      by_cases he : Q ⟨x, y, z⟩
      · have HE := Lib.hid he
        clear he
        go_wp2_with (go_at_call 169; refine HC.out.mono ?_; intro e w2 hp; obtain ⟨rfl, hb2⟩ := hp.yes HE.out; have HB2 := Lib.hid (below_trans HR.out hb2); clear hb2 hp)
        go_ret
        exact ⟨_, rfl, .inr ⟨k, _, rfl, HX.out, HE.out, HN.out⟩, HB2.out⟩
      · have HE := Lib.hid he
        clear he
        go_wp2_with (go_at_call 169; refine HC.out.mono ?_; intro e w2 hp; obtain ⟨rfl, hb2⟩ := hp.no HE.out; have HB2 := Lib.hid (below_trans HR.out hb2); clear hb2 hp)
        go_roundw
        case rel => exact ⟨k + 1, by omega, by go_num, notYet_next HN.out HX.out HE.out, HB2.out⟩
        case measure => simp [intOf]; omega
    · have HL := Lib.hid (show k = xs.length by have := H.out.len; omega)
      go_wp2
      go_ret
      exact ⟨_, rfl, .inl ⟨rfl, fun i r hr => HN.out i r (by have := (List.getElem?_eq_some_iff.1 hr).1; have := HL.out; omega) hr⟩, HR.out⟩
set_option maxRecDepth 20000 in
set_option maxHeartbeats 800000 in
theorem indexLast_any (Q : T3 → Prop) (p1 : Value) (A : Option Addr) (n cap : Nat) (xs : List T3) (w : World) (h : SlE 3 enc3 w A n xs) (hn : n ≤ 16777216)
    (ht : ∀ W, Below w.heap.size w W → ∀ (j : Nat) x y z, xs[j]? = some ⟨x, y, z⟩ → Calls Tryz.prog 223 #[.agg #[.int .i64 x, .int .i64 y, .int .i64 z], p1] W (OnlyB (Q ⟨x, y, z⟩) W)) :
    Calls Tryz.prog 168 #[.slice A n cap, .func (.func 223) #[] #[p1]] w (FstRet Q xs w) := by
  have H := Lib.hid h
  have HT := Lib.hid ht
  clear h ht
  go_enter Tryz.func168, Tryz.ntmps168
  go_wp2
  go_loopw [8, 5] (fun i _ wr => ∃ k : Nat, k ≤ n ∧ i = .int .i64 k ∧ NotYet Q xs k ∧ Below w.heap.size w wr) (fun i _ _ => n - (intOf i).toNat)
  case atStart => exact ⟨0, by omega, rfl, notYet_nil Q xs, Below.refl _ _⟩
  case round =>
    obtain ⟨k, hk, rfl, hno, hbr⟩ := hrel
    have HR := Lib.hid hbr
    have HN := Lib.hid hno
    clear hno hbr
    by_cases hlt : k < n
    · obtain ⟨b, off, x, y, z, rfl, hbl, hx, hd, g0, g1, g2⟩ := at3 H.out HR.out hlt
      have HX := Lib.hid hx
      have HC := Lib.hid (HT.out _ HR.out k x y z hx)
      clear hx hd
      by_cases he : Q ⟨x, y, z⟩
      · have HE := Lib.hid he
        clear he
        go_wp2_with (go_at_call 223; refine HC.out.mono ?_; intro e w2 hp; obtain ⟨rfl, hb2⟩ := hp.yes HE.out; have HB2 := Lib.hid (below_trans HR.out hb2); clear hb2 hp)
        go_ret
        exact ⟨_, rfl, .inr ⟨k, _, rfl, HX.out, HE.out, HN.out⟩, HB2.out⟩
      · have HE := Lib.hid he
        clear he
        go_wp2_with (go_at_call 223; refine HC.out.mono ?_; intro e w2 hp; obtain ⟨rfl, hb2⟩ := hp.no HE.out; have HB2 := Lib.hid (below_trans HR.out hb2); clear hb2 hp)
        go_roundw
        case rel => exact ⟨k + 1, by omega, by go_num, notYet_next HN.out HX.out HE.out, HB2.out⟩
        case measure => simp [intOf]; omega
    · have HL := Lib.hid (show k = xs.length by have := H.out.len; omega)
      go_wp2
      go_ret
      exact ⟨_, rfl, .inl ⟨rfl, fun i r hr => HN.out i r (by have := (List.getElem?_eq_some_iff.1 hr).1; have := HL.out; omega) hr⟩, HR.out⟩
set_option maxRecDepth 20000 in
set_option maxHeartbeats 800000 in
theorem indexTake_any (Q : T3 → Prop) (p1 : Value) (A : Option Addr) (n cap : Nat) (xs : List T3) (w : World) (h : SlE 3 enc3 w A n xs) (hn : n ≤ 16777216)
    (ht : ∀ W, Below w.heap.size w W → ∀ (j : Nat) x y z, xs[j]? = some ⟨x, y, z⟩ → Calls Tryz.prog 170 #[p1, .agg #[.int .i64 x, .int .i64 y, .int .i64 z]] W (OnlyB (Q ⟨x, y, z⟩) W)) :
    Calls Tryz.prog 168 #[.slice A n cap, .func (.func 170) #[p1] #[]] w (FstRet Q xs w) := by
  have H := Lib.hid h
  have HT := Lib.hid ht
  clear h ht
  go_enter Tryz.func168, Tryz.ntmps168
  go_wp2
  go_loopw [8, 5] (fun i _ wr => ∃ k : Nat, k ≤ n ∧ i = .int .i64 k ∧ NotYet Q xs k ∧ Below w.heap.size w wr) (fun i _ _ => n - (intOf i).toNat)
  case atStart => exact ⟨0, by omega, rfl, notYet_nil Q xs, Below.refl _ _⟩
  case round =>
    obtain ⟨k, hk, rfl, hno, hbr⟩ := hrel
    have HR := Lib.hid hbr
    have HN := Lib.hid hno
    clear hno hbr
    by_cases hlt : k < n
    · obtain ⟨b, off, x, y, z, rfl, hbl, hx, hd, g0, g1, g2⟩ := at3 H.out HR.out hlt
      have HX := Lib.hid hx
      have HC := Lib.hid (HT.out _ HR.out k x y z hx)
      clear hx hd
      by_cases he : Q ⟨x, y, z⟩
      · have HE := Lib.hid he
        clear he
        go_wp2_with (go_at_call 170; refine HC.out.mono ?_; intro e w2 hp; obtain ⟨rfl, hb2⟩ := hp.yes HE.out; have HB2 := Lib.hid (below_trans HR.out hb2); clear hb2 hp)
        go_ret
        exact ⟨_, rfl, .inr ⟨k, _, rfl, HX.out, HE.out, HN.out⟩, HB2.out⟩
      · have HE := Lib.hid he
        clear he
        go_wp2_with (go_at_call 170; refine HC.out.mono ?_; intro e w2 hp; obtain ⟨rfl, hb2⟩ := hp.no HE.out; have HB2 := Lib.hid (below_trans HR.out hb2); clear hb2 hp)
        go_roundw
        case rel => exact ⟨k + 1, by omega, by go_num, notYet_next HN.out HX.out HE.out, HB2.out⟩
        case measure => simp [intOf]; omega
    · have HL := Lib.hid (show k = xs.length by have := H.out.len; omega)
      go_wp2
      go_ret
      exact ⟨_, rfl, .inl ⟨rfl, fun i r hr => HN.out i r (by have := (List.getElem?_eq_some_iff.1 hr).1; have := HL.out; omega) hr⟩, HR.out⟩
set_option maxRecDepth 20000 in
set_option maxHeartbeats 400000 in
theorem rideTest_any (x y z t : Int) (g : Nat) (w : World) (ha : w.cell? ⟨g, 0, none⟩ = some (.int .i64 t)) :
    Calls Tryz.prog 169 #[.agg #[.int .i64 x, .int .i64 y, .int .i64 z], .pointer (some ⟨g, 0, none⟩)] w (OnlyB (x = t) w) := by
  have hla := World.block_lt_of_cell? w _ ha
  simp only at hla
  go_enter Tryz.func169, Tryz.ntmps169
  go_wp2
  go_ret
  exact ⟨_, rfl, by simp, below_alloc (Below.refl _ _) _⟩
set_option maxRecDepth 20000 in
set_option maxHeartbeats 400000 in
theorem lastTest_any (x y z t : Int) (g : Nat) (w : World) (ha : w.cell? ⟨g, 0, none⟩ = some (.int .i64 t)) :
    Calls Tryz.prog 223 #[.agg #[.int .i64 x, .int .i64 y, .int .i64 z], .pointer (some ⟨g, 0, none⟩)] w (OnlyB (x = t) w) := by
  have hla := World.block_lt_of_cell? w _ ha
  simp only at hla
  go_enter Tryz.func223, Tryz.ntmps223
  go_wp2
  go_ret
  exact ⟨_, rfl, by simp, below_alloc (Below.refl _ _) _⟩
set_option maxRecDepth 20000 in
set_option maxHeartbeats 400000 in
theorem townValid_any (n t : Int) (w : World) : Calls Tryz.prog 60 #[.int .i64 n, .int .i64 t] w (SameB (0 ≤ t ∧ t < n) w) := by
  go_enter Tryz.func60, Tryz.ntmps60
  go_wp2
  all_goals
    go_ret
    exact ⟨_, rfl, by simp <;> omega, rfl⟩
set_option maxRecDepth 20000 in
set_option maxHeartbeats 400000 in
theorem delayValid_any (t : Int) (w : World) : Calls Tryz.prog 125 #[.int .i64 t] w (SameB (0 ≤ t ∧ t ≤ 300) w) := by
  go_enter Tryz.func125, Tryz.ntmps125
  go_wp2
  all_goals
    go_ret
    exact ⟨_, rfl, by simp <;> omega, rfl⟩

/-! ### A letter's table in memory: the struct at block P, its times at block T -/
structure PtAt (P T : Nat) (N : Value) (s0 ch : Int) (n c : Nat) (f : Int → Int) (W : World) : Prop where
  ne : P ≠ T
  pl : P < W.heap.size
  tl : T < W.heap.size
  net : W.cell? ⟨P, 0, none⟩ = some N
  fst : W.cell? ⟨P, 1, none⟩ = some (.int .i64 s0)
  chg : W.cell? ⟨P, 2, none⟩ = some (.int .i64 ch)
  tms : W.cell? ⟨P, 3, none⟩ = some (.slice (some ⟨T, 0, none⟩) n c)
  at_ : ∀ k : Nat, k < n → W.cell? ⟨T, k, none⟩ = some (.int .i64 (f k))
  frz : ∀ j, W.frozen? ⟨T, j, none⟩ = false
section
variable {P T : Nat} {N : Value} {s0 ch : Int} {n c : Nat} {f : Int → Int} {W W' : World}
theorem PtAt.below (h : PtAt P T N s0 ch n c f W) (hb : Below W.heap.size W W') : PtAt P T N s0 ch n c f W' :=
  ⟨h.ne, Nat.lt_of_lt_of_le h.pl hb.size, Nat.lt_of_lt_of_le h.tl hb.size, by rw [hb.cell h.pl]; exact h.net, by rw [hb.cell h.pl]; exact h.fst, by rw [hb.cell h.pl]; exact h.chg, by rw [hb.cell h.pl]; exact h.tms, fun k hk => by rw [hb.cell h.tl]; exact h.at_ k hk, fun j => by rw [hb.frozen h.tl]; exact h.frz j⟩
theorem PtAt.put (h : PtAt P T N s0 ch n c f W) (k : Nat) (hk : k < n) (d : Int) : PtAt P T N s0 ch n c (updI f k d) (W.setCell ⟨T, k, none⟩ (.int .i64 d)) := by
  have hp : ∀ j, (W.setCell ⟨T, k, none⟩ (.int .i64 d)).cell? ⟨P, j, none⟩ = W.cell? ⟨P, j, none⟩ := fun j => World.cell?_setCell_other _ _ _ _ (fun e => h.ne (by injection e with e; exact e.symm))
  have hs : (W.setCell ⟨T, k, none⟩ (.int .i64 d)).heap.size = W.heap.size := by simp [World.setCell]
  refine ⟨h.ne, by rw [hs]; exact h.pl, by rw [hs]; exact h.tl, by rw [hp]; exact h.net, by rw [hp]; exact h.fst, by rw [hp]; exact h.chg, by rw [hp]; exact h.tms, fun j hj => ?_, fun j => by rw [World.frozen?_setCell]; exact h.frz j⟩
  by_cases e : j = k
  · subst e
    rw [World.cell?_setCell_same _ _ _ (h.at_ j hj), updI_self]
  · rw [World.cell?_setCell_other _ _ _ _ (fun h2 => e (by injection h2 with _ h3; exact h3.symm)), h.at_ j hj, updI_ne (by omega)]
end

set_option maxRecDepth 20000 in
set_option maxHeartbeats 1600000 in
theorem canTake_any {P T : Nat} {N : Value} {s0 ch : Int} {n c : Nat} {f : Int → Int} (x : Nat) (y z : Int) (W : World) (h : PtAt P T N s0 ch n c f W) (hx : x < n) (hc : n ≤ c) (hf : -1 ≤ f x ∧ f x ≤ 10000) (hch : 0 ≤ ch ∧ ch ≤ 10000) :
    Calls Tryz.prog 170 #[.pointer (some ⟨P, 0, none⟩), .agg #[.int .i64 x, .int .i64 y, .int .i64 z]] W (OnlyB (Rdy f s0 ch ⟨x, y, z⟩) W) := by
  obtain ⟨hne, hpl, htl, g0, g1, g2, g3, gt, -⟩ := h
  have gx := gt x hx
  generalize hv : f x = v at *
  have HV := Lib.hid hv
  have hR : Hid (Rdy f s0 ch ⟨x, y, z⟩ ↔ 0 ≤ v ∧ v + lag s0 ch x ≤ z) := Lib.hid (by unfold Rdy; dsimp only; rw [hv])
  have HB := Lib.hid (below_alloc (Below.refl W.heap.size W) (.cells #[.int .i64 (x : Int), .int .i64 y, .int .i64 z] 103))
  have hxn : (x : Int) < (n : Int) := by omega
  clear gt hv
  by_cases hv0 : v < 0
  · have HN := Lib.hid (show ¬ Rdy f s0 ch ⟨x, y, z⟩ from fun h => by have := hR.out.1 h; omega)
    go_enter Tryz.func170, Tryz.ntmps170
    go_wp2_with fail
    go_quiet (fail)
    go_wp2_with fail
    go_ret
    exact onlyB_false HN.out (bl_drewN HB.out _)
  by_cases hs : (x : Int) = s0
  · have ds : ((x : Int) != s0) = false := by simpa using hs
    have HR2 : Hid (Rdy f s0 ch ⟨x, y, z⟩ ↔ v ≤ z) := Lib.hid (by rw [hR.out]; unfold lag; rw [if_pos hs]; omega)
    clear hs
    by_cases hz : v ≤ z
    · have HZ := Lib.hid hz
      go_enter Tryz.func170, Tryz.ntmps170
      go_wp2_with fail
      go_quiet (fail)
      go_wp2_with fail
      go_quiet (fail)
      go_wp2_with fail
      go_ret
      exact onlyB_true (HR2.out.2 HZ.out) (bl_drewN HB.out _)
    · have HZ := Lib.hid hz
      go_enter Tryz.func170, Tryz.ntmps170
      go_wp2_with fail
      go_quiet (fail)
      go_wp2_with fail
      go_quiet (fail)
      go_wp2_with fail
      go_ret
      exact ⟨decide (v ≤ z), rfl, by rw [HR2.out]; exact decide_eq_true_iff, bl_drewN HB.out _⟩
  · have ds : ((x : Int) != s0) = true := by simpa using hs
    have HR2 : Hid (Rdy f s0 ch ⟨x, y, z⟩ ↔ v + ch ≤ z) := Lib.hid (by rw [hR.out]; unfold lag; rw [if_neg hs]; omega)
    have ew : IntKind.i64.wrap (v + ch) = v + ch := IntWalk.i64_in _ (by omega)
    clear hs
    by_cases hz : v + ch ≤ z
    · have HZ := Lib.hid hz
      go_enter Tryz.func170, Tryz.ntmps170
      go_wp2_with fail
      go_quiet (fail)
      go_wp2_with fail
      go_quiet (fail)
      go_wp2_with fail
      go_ret
      exact onlyB_true (HR2.out.2 HZ.out) (bl_drewN HB.out _)
    · have HZ := Lib.hid hz
      go_enter Tryz.func170, Tryz.ntmps170
      go_wp2_with fail
      go_quiet (fail)
      go_wp2_with fail
      go_quiet (fail)
      go_wp2_with fail
      go_ret
      exact ⟨decide (v + ch ≤ z), rfl, by rw [HR2.out]; exact decide_eq_true_iff, bl_drewN HB.out _⟩

/-- How reach ends. -/
def Reached (P T : Nat) (N : Value) (s0 ch : Int) (n c : Nat) (f : Int → Int) (v t : Int) (W : World) (e : Ending) (W' : World) : Prop :=
  (e = .returned (.bool false) ∧ (0 ≤ f v ∧ f v ≤ t) ∧ W = W') ∨ (e = .returned (.bool true) ∧ (f v < 0 ∨ t < f v) ∧ PtAt P T N s0 ch n c (updI f v t) W' ∧ W.grownBy W' (some T))
set_option maxRecDepth 20000 in
set_option maxHeartbeats 1600000 in
theorem reach_any {P T : Nat} {N : Value} {s0 ch : Int} {n c : Nat} {f : Int → Int} (v : Nat) (t : Int) (W : World) (h : PtAt P T N s0 ch n c f W) (hx : v < n) (hc : n ≤ c) :
    Calls Tryz.prog 129 #[.pointer (some ⟨P, 0, none⟩), .int .i64 v, .int .i64 t] W (Reached P T N s0 ch n c f v t W) := by
  have HP := Lib.hid (h.put v hx t)
  have HG := Lib.hid (show W.grownBy (W.setCell ⟨T, v, none⟩ (.int .i64 t)) (some T) from ⟨rfl, rfl, rfl, by simp, fun j hj hne => Below.heap_setCell W _ _ j (fun e => hne (by rw [e]))⟩)
  obtain ⟨hne, hpl, htl, g0, g1, g2, g3, gt, gf⟩ := h
  have gx := gt v hx
  have gf := gf v
  have hvn : (v : Int) < (n : Int) := by omega
  generalize hu : f v = u at *
  have HU := Lib.hid hu
  clear gt hu
  by_cases h0 : 0 ≤ u
  · by_cases h1 : u ≤ t
    · go_enter Tryz.func129, Tryz.ntmps129
      go_wp2_with fail
      go_ret
      exact .inl ⟨rfl, by rw [HU.out]; exact ⟨h0, h1⟩, rfl⟩
    · go_enter Tryz.func129, Tryz.ntmps129
      go_wp2_with fail
      go_ret
      exact .inr ⟨rfl, by rw [HU.out]; omega, HP.out, HG.out⟩
  · go_enter Tryz.func129, Tryz.ntmps129
    go_wp2_with fail
    go_ret
    exact .inr ⟨rfl, by rw [HU.out]; omega, HP.out, HG.out⟩
end Go.Proofs.YtgjllminidlolaaGreatDoor
