/- Texts of mine in one: RWalkC RWalkE ConR RWalkP. -/
import Derived.Test.YtgjllminidlolaaGreatDoorMAE
import Derived.Test.YtgjllminidlolaaGreatDoorMAB
import Derived.Test.YtgjllminidlolaaGreatDoorMAF
import Derived.Test.YtgjllminidlolaaGreatDoorMAC
import Derived.Deep.RegionHeld3
import Derived.StillTailTactics
/- Contracts: roads of the program: the map of roads. -/
set_option linter.unusedVariables false
namespace Go.Proofs.YtgjllminidlolaaGreatDoor
open Go.RowKit Go.MapKept

/-- The towns' maps. -/
def topL (bm n : Nat) : List (Int × Value) := (List.range n).map fun (t : Nat) => ((t : Int), Value.map (some (bm + 1 + t)))
def valL (l : List (Int × Int)) : List (Int × Value) := l.map fun p => (p.1, Value.int .i64 p.2)
theorem topL_len (bm n : Nat) : (topL bm n).length = n := by simp [topL]
theorem topL_snoc (bm n : Nat) : topL bm (n + 1) = topL bm n ++ [((n : Int), Value.map (some (bm + 1 + n)))] := by simp [topL, List.range_succ]
theorem topL_mem {bm n t : Nat} (h : t < n) : ((t : Int), Value.map (some (bm + 1 + t))) ∈ topL bm n := List.mem_map.2 ⟨t, List.mem_range.2 h, rfl⟩
theorem topL_keys (bm n : Nat) : (topL bm n).map (·.1) = (List.range n).map fun (t : Nat) => (t : Int) := by simp [topL]
theorem topL_key {bm n : Nat} {t : Int} : t ∈ (topL bm n).map (·.1) ↔ 0 ≤ t ∧ t < n := by
  rw [topL_keys]
  constructor
  · intro h
    obtain ⟨k, hk, rfl⟩ := List.mem_map.1 h
    have := List.mem_range.1 hk
    omega
  · intro h
    exact List.mem_map.2 ⟨t.toNat, List.mem_range.2 (by omega), by omega⟩
theorem topL_D (bm n : Nat) : KeysD (topL bm n) := by
  unfold KeysD
  rw [topL_keys]
  exact List.Pairwise.map _ (fun a b h e => h (by omega)) List.nodup_range
theorem valL_keys (l : List (Int × Int)) : (valL l).map (·.1) = l.map (·.1) := by simp [valL, Function.comp_def]
theorem valL_snoc (l : List (Int × Int)) (k v : Int) : valL (l ++ [(k, v)]) = valL l ++ [(k, Value.int .i64 v)] := by simp [valL]
theorem valL_mem {l : List (Int × Int)} {k v : Int} (h : (k, v) ∈ l) : (k, Value.int .i64 v) ∈ valL l := List.mem_map.2 ⟨_, h, rfl⟩
/-- The map of roads in memory. -/
def GraphAt (n bm : Nat) (xs : List T3) (W : World) : Prop := MapG W bm (topL bm n) ∧ ∀ t : Nat, t < n → MapG W (bm + 1 + t) (valL (nbr xs t))
theorem GraphAt.below {n bm : Nat} {xs : List T3} {W W' : World} (h : GraphAt n bm xs W) (hb : Below W.heap.size W W') : GraphAt n bm xs W' :=
  ⟨h.1.below hb h.1.lt, fun t ht => (h.2 t ht).below hb (h.2 t ht).lt⟩
theorem MapG.grown {w w' : World} {b r : Nat} {l : List (Int × Value)} (h : MapG w b l) (hg : w.grownBy w' (some r)) (hne : b ≠ r) : MapG w' b l := h.keeps (Keeps.of_grown hg) hne
theorem MapG.alloc {w : World} {b : Nat} {l : List (Int × Value)} (h : MapG w b l) (o : Obj) : MapG (w.alloc o) b l := h.below (below_alloc (Below.refl w.heap.size w) o) h.lt
/-- The towns' maps while they are made. -/
def TopAt (bm k : Nat) (W : World) : Prop := MapG W bm (topL bm k) ∧ (∀ t : Nat, t < k → MapG W (bm + 1 + t) []) ∧ W.heap.size = bm + 1 + k
theorem topAt_new (w : World) : TopAt w.heap.size 0 (w.alloc (.map #[] 0)) := ⟨MapG.made w, fun t h => absurd h (by omega), by show (w.heap.push _).size = _; rw [Array.size_push]⟩
theorem topAt_alloc {bm k : Nat} {W : World} (h : TopAt bm k W) : MapG (W.alloc (.map #[] 0)) bm (topL bm k) ∧ (∀ t : Nat, t < k + 1 → MapG (W.alloc (.map #[] 0)) (bm + 1 + t) []) ∧ (W.alloc (.map #[] 0)).heap.size = bm + 1 + (k + 1) := by
  obtain ⟨h1, h2, h3⟩ := h
  refine ⟨h1.alloc _, fun t ht => ?_, by show (W.heap.push _).size = _; rw [Array.size_push, h3]; omega⟩
  by_cases e : t = k
  · subst e
    have := MapG.made W
    rw [h3] at this
    exact this
  · exact (h2 t (by omega)).alloc _
theorem topAt_next {bm k : Nat} {W W2 : World} (h : TopAt bm k W) (ha : MapG (W.alloc (.map #[] 0)) bm (topL bm k) ∧ (∀ t : Nat, t < k + 1 → MapG (W.alloc (.map #[] 0)) (bm + 1 + t) []) ∧ (W.alloc (.map #[] 0)).heap.size = bm + 1 + (k + 1))
    (hm : MapG W2 bm (topL bm k ++ [((k : Int), Value.map (some W.heap.size))])) (hg : (W.alloc (.map #[] 0)).grownBy W2 (some bm)) (hs : W2.heap.size = (W.alloc (.map #[] 0)).heap.size) : TopAt bm (k + 1) W2 := by
  rw [h.2.2, ← topL_snoc] at hm
  exact ⟨hm, fun t ht => (ha.2.1 t ht).grown hg (by omega), by rw [hs, ha.2.2]⟩
theorem topAt_graph {bm n : Nat} {W : World} (h : TopAt bm n W) (xs : List T3) : GraphAt n bm (xs.take 0) W ∧ bm + n < W.heap.size :=
  ⟨⟨h.1, fun t ht => h.2.1 t ht⟩, by have := h.2.2; omega⟩
theorem zeroI (w : World) : (zeroValue 3).run Tryz.prog w = .ok (.int .i64 0) w := by kernel_rfl
theorem nbr_back {n : Int} {xs : List T3} {j : Nat} (h : RoadPre n (xs.take j)) {a b : Int} (hab : a < b) (hno : NoTwin xs j a b) : a ∉ (nbr (xs.take j) b).map (·.1) := fun hm => by
  obtain ⟨⟨v, w⟩, hv, rfl⟩ := List.mem_map.1 hm
  obtain ⟨q, hq, he, _⟩ := nbr_edge hv
  have ho := h.1 q hq
  unfold OkR at ho
  dsimp only at he hab hno
  obtain ⟨i, hi⟩ := List.getElem?_of_mem hq
  rw [List.getElem?_take] at hi
  split at hi
  · exact hno i q (by assumption) hi (by omega)
  · cases hi
theorem nbr_fore {n : Int} {xs : List T3} {j : Nat} (h : RoadPre n (xs.take j)) {a b : Int} (hab : a < b) (hno : NoTwin xs j a b) : b ∉ (nbr (xs.take j) a).map (·.1) := fun hm => by
  obtain ⟨i, q, hi, hq, h1, h2⟩ := (nbr_twin h hab).1 hm
  exact hno i q hi hq ⟨h1, h2⟩
theorem nbr_keysT {n : Int} {xs : List T3} {j : Nat} (h : RoadPre n (xs.take j)) (t : Int) : ((nbr (xs.take j) t).map (·.1)).Nodup := by
  have := nbr_keys (xs.take j).length h t
  rw [List.take_length] at this
  exact this
/-- One way of a road is laid. -/
def HalfAt (n bm : Nat) (xs : List T3) (x y : Nat) (z : Int) (W : World) : Prop :=
  MapG W bm (topL bm n) ∧ (∀ t : Nat, t < n → t ≠ x → MapG W (bm + 1 + t) (valL (nbr xs t))) ∧ MapG W (bm + 1 + x) (valL (nbr xs x) ++ [((y : Int), Value.int .i64 z)])
theorem half_of {n bm : Nat} {xs : List T3} {x y : Nat} {z : Int} {W W1 : World} (h : GraphAt n bm xs W) (hm : MapG W1 (bm + 1 + x) (valL (nbr xs x) ++ [((y : Int), Value.int .i64 z)])) (hg : W.grownBy W1 (some (bm + 1 + x))) : HalfAt n bm xs x y z W1 :=
  ⟨h.1.grown hg (by omega), fun t ht hne => (h.2 t ht).grown hg (by omega), hm⟩
theorem half_next {n bm : Nat} {xs : List T3} {j x y : Nat} {z : Int} {W W1 : World} (h : HalfAt n bm (xs.take j) x y z W) (hp : xs[j]? = some ⟨x, y, z⟩) (hxy : x < y)
    (hm : MapG W1 (bm + 1 + y) (valL (nbr (xs.take j) y) ++ [((x : Int), Value.int .i64 z)])) (hg : W.grownBy W1 (some (bm + 1 + y))) : GraphAt n bm (xs.take (j + 1)) W1 := by
  refine ⟨h.1.grown hg (by omega), fun t ht => ?_⟩
  rw [take_next hp, nbr_snoc]
  dsimp only
  by_cases e1 : t = x
  · subst e1
    rw [if_pos rfl, valL_snoc]
    exact h.2.2.grown hg (by omega)
  · rw [if_neg (by omega)]
    by_cases e2 : t = y
    · subst e2
      rw [if_pos rfl, valL_snoc]
      exact hm
    · rw [if_neg (by omega), List.append_nil]
      exact (h.2.1 t ht e1).grown hg (by omega)
theorem box3_new (w : World) (x y z : Int) (T : TypeId) : (w.alloc (.cells #[.int .i64 x, .int .i64 y, .int .i64 z] T)).cell? ⟨w.heap.size, 0, none⟩ = some (.int .i64 x) ∧ (w.alloc (.cells #[.int .i64 x, .int .i64 y, .int .i64 z] T)).cell? ⟨w.heap.size, 1, none⟩ = some (.int .i64 y) ∧ (w.alloc (.cells #[.int .i64 x, .int .i64 y, .int .i64 z] T)).cell? ⟨w.heap.size, 2, none⟩ = some (.int .i64 z) := by
  have hr : ∀ j, (w.alloc (.cells #[.int .i64 x, .int .i64 y, .int .i64 z] T)).cell? ⟨w.heap.size, j, none⟩ = (#[.int .i64 x, .int .i64 y, .int .i64 z] : Array Value)[j]? := fun j => cell_of_row _ _ j _ T (0, 0) (heap_alloc_new w _)
  exact ⟨hr 0, hr 1, hr 2⟩
theorem box3_grown {w w' : World} {r g : Nat} {x y z : Value} (h : w.cell? ⟨g, 0, none⟩ = some x ∧ w.cell? ⟨g, 1, none⟩ = some y ∧ w.cell? ⟨g, 2, none⟩ = some z) (hg : w.grownBy w' (some r)) (hlt : g < w.heap.size) (hne : r ≠ g) :
    w'.cell? ⟨g, 0, none⟩ = some x ∧ w'.cell? ⟨g, 1, none⟩ = some y ∧ w'.cell? ⟨g, 2, none⟩ = some z := by
  have hn : some r ≠ some g := fun e => hne (Option.some.inj e)
  exact ⟨by rw [grown_cell hg hlt hn]; exact h.1, by rw [grown_cell hg hlt hn]; exact h.2.1, by rw [grown_cell hg hlt hn]; exact h.2.2⟩
/-- How mapRoads ends. -/
def Mapped (n : Int) (xs : List T3) (w : World) (e : Ending) (w' : World) : Prop :=
  Below w.heap.size w w' ∧ ((RoadOk n xs ∧ ∃ (m bm : Nat), n = m ∧ e = .returned (.tuple #[.map (some bm), .bool true]) ∧ w.heap.size ≤ bm ∧ GraphAt m bm xs w') ∨ (¬ RoadOk n xs ∧ e = .returned (.tuple #[.map none, .bool false])))

set_option maxRecDepth 20000 in
set_option maxHeartbeats 6400000 in
theorem mapRoads_any (A : Option Addr) (n : Int) (len cap : Nat) (xs : List T3) (w : World) (h : SlE 3 enc3 w A len xs) (hn : len ≤ 16777216) :
    Calls Tryz.prog 51 #[.int .i64 n, .slice A len cap] w (Mapped n xs w) := by
  have H := Lib.hid h
  have hxl := h.len
  have HL := Lib.hid hxl
  clear h hxl
  by_cases hr : 1 ≤ n ∧ n ≤ 8
  rotate_left
  · have HN := Lib.hid (show ¬ RoadOk n xs from fun hB => hr ⟨hB.1, hB.2.1⟩)
    by_cases h1 : n < 1
    · clear hr
      go_enter Tryz.func51, Tryz.ntmps51
      go_wp2_with fail
      go_ret2
      exact ⟨Below.refl _ _, .inr ⟨HN.out, rfl⟩⟩
    · have h2 : 8 < n := by omega
      clear hr
      go_enter Tryz.func51, Tryz.ntmps51
      go_wp2_with fail
      go_ret2
      exact ⟨Below.refl _ _, .inr ⟨HN.out, rfl⟩⟩
  obtain ⟨hr1, hr2⟩ := hr
  obtain ⟨n, rfl⟩ : ∃ m : Nat, n = m := ⟨n.toNat, by omega⟩
  by_cases hm : len ≤ 16
  rotate_left
  · have hm' : 16 < (len : Int) := by omega
    have HN := Lib.hid (show ¬ RoadOk n xs from fun hB => hm (by have := hB.2.2.1; rw [HL.out] at this; exact this))
    go_enter Tryz.func51, Tryz.ntmps51
    go_wp2_with fail
    go_ret2
    exact ⟨Below.refl _ _, .inr ⟨HN.out, rfl⟩⟩
  have hm' : (len : Int) ≤ 16 := by omega
  have hmm := @run_makeMap Tryz.prog
  go_enter Tryz.func51, Tryz.ntmps51
  go_wp2_with fail
  go_loopw [7, 25] (fun _ i wr => ∃ k : Nat, k ≤ n ∧ i = .int .i64 k ∧ TopAt w.heap.size k wr ∧ Below w.heap.size w wr) (fun _ i _ => n - (intOf i).toNat)
  case atStart => exact ⟨0, by omega, rfl, topAt_new w, below_alloc (Below.refl _ _) _⟩
  case round =>
    obtain ⟨k, hk, rfl, htop, hbr⟩ := hrel
    have HT := Lib.hid htop
    have HB := Lib.hid hbr
    clear htop hbr
    by_cases hlt : k < n
    · have HK0 := Lib.hid (topAt_alloc HT.out)
      go_wp2_with (at_mapUpdate; go_loud (refine wp_updG _ rfl _ _ _ _ rfl _ _ Tryz.underlying88 Tryz.underlying3 w.heap.size (topL w.heap.size k) rfl HK0.out.1 (k : Int) rfl (fun h => by have := topL_key.1 h; omega) _ rfl ?_); intro w2 hm2 hg2 hs2; have HT2 := Lib.hid (topAt_next HT.out HK0.out hm2 hg2 hs2); have HB2 := Lib.hid ((below_alloc HB.out (.map #[] 0)).grown hg2 (below_alloc HB.out (.map #[] 0)).size (fun j hj => by injection hj with hj; omega)); clear hm2 hg2 hs2)
      go_roundw
      case rel => exact ⟨k + 1, by omega, by go_num, HT2.out, HB2.out⟩
      case measure => simp [intOf]; omega
    obtain rfl : n = k := by omega
    clear hlt hk
    have HG0 := Lib.hid (topAt_graph HT.out xs)
    go_wp2_with fail
    go_loopw [9, 10, 11, 34] (fun _ _ _ i wl => ∃ j : Nat, j ≤ len ∧ i = .int .i64 j ∧ RoadPre n (xs.take j) ∧ GraphAt n w.heap.size (xs.take j) wl ∧ Below w.heap.size w wl ∧ w.heap.size + n < wl.heap.size) (fun _ _ _ i _ => len - (intOf i).toNat)
    case atStart => exact ⟨0, by omega, rfl, pre_nil _ _, HG0.out.1, HB.out, HG0.out.2⟩
    case round =>
      obtain ⟨j, hj, rfl, hpre, hgr, hbl, hsz⟩ := hrel
      have HP := Lib.hid hpre
      have HG := Lib.hid hgr
      have HR := Lib.hid hbl
      clear hpre hgr hbl HT HB HG0
      by_cases hlt : j < len
      rotate_left
      · have hx : xs.take j = xs := List.take_of_length_le (by have := HL.out; omega)
        rw [hx] at HP HG
        clear hx
        have HOK := Lib.hid (show RoadOk n xs from ⟨hr1, hr2, by rw [HL.out]; exact hm, HP.out⟩)
        go_wp2_with fail
        go_ret2
        exact ⟨HR.out, .inl ⟨HOK.out, n, w.heap.size, rfl, rfl, Nat.le_refl _, HG.out⟩⟩
      obtain ⟨b, off, x, y, z, rfl, hbl, hx, hd, g0, g1, g2⟩ := at3 H.out HR.out hlt
      have HX := Lib.hid hx
      have HBX := Lib.hid (below_alloc HR.out (.cells #[.int .i64 x, .int .i64 y, .int .i64 z] 43))
      clear hd hx
      by_cases hok : OkR n ⟨x, y, z⟩
      rotate_left
      · have HN := Lib.hid (road_bad HX.out hok)
        unfold OkR at hok
        dsimp only at hok
        by_cases k1 : x < 0
        · clear hok
          go_wp2_with fail
          go_ret2
          exact ⟨HBX.out, .inr ⟨HN.out, rfl⟩⟩
        by_cases k2 : y ≤ x
        · clear hok
          go_wp2_with fail
          go_ret2
          exact ⟨HBX.out, .inr ⟨HN.out, rfl⟩⟩
        by_cases k3 : (n : Int) ≤ y
        · clear hok
          go_wp2_with fail
          go_ret2
          exact ⟨HBX.out, .inr ⟨HN.out, rfl⟩⟩
        by_cases k4 : z < 1
        · clear hok
          go_wp2_with fail
          go_ret2
          exact ⟨HBX.out, .inr ⟨HN.out, rfl⟩⟩
        have k5 : 99 < z := by omega
        clear hok
        go_wp2_with fail
        go_ret2
        exact ⟨HBX.out, .inr ⟨HN.out, rfl⟩⟩
      have HOK := Lib.hid hok
      unfold OkR at hok
      dsimp only at hok
      obtain ⟨x, rfl⟩ : ∃ i : Nat, x = i := ⟨x.toNat, by omega⟩
      obtain ⟨y, rfl⟩ : ∃ i : Nat, y = i := ⟨y.toNat, by omega⟩
      have k1 : ¬ (x : Int) < 0 := by omega
      have k2 : ¬ (y : Int) ≤ (x : Int) := by omega
      have k3 : ¬ (n : Int) ≤ (y : Int) := by omega
      have k4 : ¬ z < 1 := by omega
      have k5 : ¬ 99 < z := by omega
      have hxn : x < n := by omega
      have hyn : y < n := by omega
      have hxy : x < y := by omega
      clear hok
      have G0 := Lib.hid (HG.out.below (below_alloc (Below.refl wr.heap.size wr) (.cells #[.int .i64 x, .int .i64 y, .int .i64 z] 43)))
      have HKD := Lib.hid (show KeysD (valL (nbr (xs.take j) x)) by unfold KeysD; rw [valL_keys]; exact nbr_keysT HP.out x)
      by_cases htw : NoTwin xs j x y
      rotate_left
      · obtain ⟨i, q, hi, hq, hqa, hqb⟩ : ∃ i q, i < j ∧ xs[i]? = some q ∧ q.a = x ∧ q.b = y := by
          apply Classical.byContradiction
          intro hno
          exact htw fun i q hi hq hh => hno ⟨i, q, hi, hq, hh.1, hh.2⟩
        have HN := Lib.hid (road_dup (n := n) hi hq HX.out ⟨hqa, hqb⟩)
        obtain ⟨⟨v', c⟩, hv, hve⟩ := List.mem_map.1 ((nbr_twin (n := n) HP.out (show (x : Int) < y by omega)).2 ⟨i, q, hi, hq, hqa, hqb⟩)
        dsimp only at hve
        subst hve
        have HV := Lib.hid (valL_mem hv)
        clear htw hi hq hqa hqb hv
        go_wp2_with (first
          | (at_lookup; (refine wp_lookG _ rfl _ _ 88 _ rfl _ _ Tryz.underlying88 Tryz.underlying3 w.heap.size (topL w.heap.size n) rfl G0.out.1 (topL_D _ _) (x : Int) rfl _ (topL_mem hxn) ?_))
          | (at_lookup; (refine wp_lookG _ rfl _ _ 91 _ rfl _ _ Tryz.underlying91 Tryz.underlying3 (w.heap.size + 1 + x) (valL (nbr (xs.take j) x)) rfl (G0.out.2 x hxn) HKD.out (y : Int) rfl _ HV.out ?_)))
        go_ret2
        exact ⟨HBX.out, .inr ⟨HN.out, rfl⟩⟩
      have HM1 := Lib.hid (show ((y : Int)) ∉ (valL (nbr (xs.take j) x)).map (·.1) by rw [valL_keys]; exact nbr_fore HP.out (by omega) htw)
      have HM2 := Lib.hid (show ((x : Int)) ∉ (valL (nbr (xs.take j) y)).map (·.1) by rw [valL_keys]; exact nbr_back HP.out (by omega) htw)
      have HPN := Lib.hid (pre_next HP.out HX.out HOK.out htw)
      have HB0 := Lib.hid (box3_new wr x y z 43)
      have hws : wr.heap.size < (wr.alloc (.cells #[.int .i64 x, .int .i64 y, .int .i64 z] 43)).heap.size := by show _ < (wr.heap.push _).size; rw [Array.size_push]; omega
      have HWS := Lib.hid hws
      have e1 : w.heap.size + 1 + x ≠ wr.heap.size := by omega
      have e2 : w.heap.size + 1 + y ≠ wr.heap.size := by omega
      clear htw hws
      go_wp2_with (first
        | (at_lookup; (refine wp_lookG _ rfl _ _ 88 _ rfl _ _ Tryz.underlying88 Tryz.underlying3 w.heap.size (topL w.heap.size n) rfl G0.out.1 (topL_D _ _) (x : Int) rfl _ (topL_mem hxn) ?_))
        | (at_lookup; (refine wp_missG _ rfl _ _ 91 _ rfl _ _ Tryz.underlying91 Tryz.underlying3 (w.heap.size + 1 + x) (valL (nbr (xs.take j) x)) rfl (G0.out.2 x hxn) (y : Int) rfl HM1.out _ (zeroI _) ?_))
        | (at_lookup; (refine wp_lookG _ rfl _ _ 88 _ rfl _ _ Tryz.underlying88 Tryz.underlying3 w.heap.size (topL w.heap.size n) rfl HH1.out.1 (topL_D _ _) (y : Int) rfl _ (topL_mem hyn) ?_))
        | (at_mapUpdate; (refine wp_updG _ rfl _ _ _ 91 rfl _ _ Tryz.underlying91 Tryz.underlying3 (w.heap.size + 1 + x) (valL (nbr (xs.take j) x)) rfl (G0.out.2 x hxn) (y : Int) rfl HM1.out _ rfl ?_); intro w1 hm1 hg1 hs1; have HH1 := Lib.hid (half_of G0.out hm1 hg1); obtain ⟨c0, c1, c2⟩ := box3_grown HB0.out hg1 HWS.out e1; have HC1 := Lib.hid (And.intro c0 (And.intro c1 c2)); have HS1 := Lib.hid (Nat.lt_of_lt_of_le HWS.out (Nat.le_of_eq hs1.symm)); have HBW1 := Lib.hid (HBX.out.grown hg1 HBX.out.size (fun i hi => by injection hi with hi; omega)); clear hm1 hg1 hs1)
        | (at_mapUpdate; go_loud (refine wp_updG _ rfl _ _ _ _ rfl _ _ Tryz.underlying91 Tryz.underlying3 (w.heap.size + 1 + y) (valL (nbr (xs.take j) y)) rfl (HH1.out.2.1 y hyn (by omega)) (x : Int) rfl HM2.out _ rfl ?_); intro w2 hm2 hg2 hs2; have HG2 := Lib.hid (half_next HH1.out HX.out hxy hm2 hg2); have HBW2 := Lib.hid (HBW1.out.grown hg2 HBW1.out.size (fun i hi => by injection hi with hi; omega)); have HSZ := Lib.hid (Nat.lt_of_lt_of_le (Nat.lt_trans hsz HS1.out) (Nat.le_of_eq hs2.symm)); clear hm2 hg2 hs2))
      go_roundw
      case rel => exact ⟨j + 1, by omega, by go_num, HPN.out, HG2.out, HBW2.out, HSZ.out⟩
      case measure => simp [intOf]; omega
end Go.Proofs.YtgjllminidlolaaGreatDoor
/- Contracts: roads of the program: RoadsValid, RoadsDirect, has. -/
set_option linter.unusedVariables false
namespace Go.Proofs.YtgjllminidlolaaGreatDoor
open Go.RowKit Go.MapKept

theorem directV_edge {n : Int} {xs : List T3} (hok : RoadOk n xs) {a c w : Int} (h : Edge xs a c w) : directV n xs a c = w := by
  rcases fndR_spec hok a c with ⟨_, h1⟩ | ⟨j, p, h1, h2, h3, _⟩
  · exact absurd h (h1 w)
  · unfold directV dirV
    rw [if_pos ⟨hok, by rw [h1]; omega⟩, h1, Int.toNat_natCast, h2]
    exact edge_unique hok h3 h
theorem directV_none {n : Int} {xs : List T3} {a c : Int} (h : RoadOk n xs → ∀ w, ¬ Edge xs a c w) : directV n xs a c = -1 := by
  unfold directV
  by_cases hok : RoadOk n xs
  · rcases fndR_spec hok a c with ⟨h1, _⟩ | ⟨j, p, _, _, h3, _⟩
    · rw [if_neg (fun hh => by have := hh.2; omega)]
    · exact absurd h3 (h hok p.c)
  · rw [if_neg (fun hh => hok hh.1)]
theorem zeroM (w : World) : (zeroValue 91).run Tryz.prog w = .ok (.map none) w := by kernel_rfl
theorem look_none (k : Int) (w : World) : (Instr.lookup 91 (.map none) (.int .i64 k) true).run Tryz.prog w = .ok (.tuple #[.int .i64 0, .bool false]) w := by
  simp [Instr.lookup, run_underlying Tryz.underlying91, run_checkKey Tryz.underlying3 (k := .int .i64 k) rfl, run_findKey Tryz.underlying3 (show Instr.findNow (.int .i64) (.int .i64 k) [] 0 = some none from rfl), zeroI w, Result.andThen]

set_option maxRecDepth 20000 in
set_option maxHeartbeats 1600000 in
theorem implRoadsValid_any (A : Option Addr) (n : Int) (len cap : Nat) (xs : List T3) (w : World) (h : SlE 3 enc3 w A len xs) (hn : len ≤ 16777216) :
    Calls Tryz.prog 202 #[.int .i64 n, .slice A len cap] w (OnlyB (RoadOk n xs) w) := by
  have HM := Lib.hid (mapRoads_any A n len cap xs w h hn)
  clear h
  go_enter Tryz.func202, Tryz.ntmps202
  go_wp2_with fail
  refine HM.out.mono ?_
  rintro e w2 ⟨hb, ⟨hok, m, bm, -, rfl, -, -⟩ | ⟨hno, rfl⟩⟩
  · have HB := Lib.hid hb
    have HK := Lib.hid hok
    clear hb hok
    go_wp2_with fail
    go_ret
    exact onlyB_true HK.out HB.out
  · have HB := Lib.hid hb
    have HK := Lib.hid hno
    clear hb hno
    go_wp2_with fail
    go_ret
    exact onlyB_false HK.out HB.out

set_option maxRecDepth 20000 in
set_option maxHeartbeats 1600000 in
theorem mhas_any (n bm : Nat) (t : Int) (xs : List T3) (w : World) (h : GraphAt n bm xs w) :
    Calls Tryz.prog 57 #[.map (some bm), .int .i64 t] w (SameB (0 ≤ t ∧ t < n) w) := by
  have H := Lib.hid h
  clear h
  by_cases ht : 0 ≤ t ∧ t < n
  · obtain ⟨t, rfl⟩ : ∃ k : Nat, t = k := ⟨t.toNat, by omega⟩
    have htn : t < n := by omega
    have HT := Lib.hid ht
    clear ht
    go_enter Tryz.func57, Tryz.ntmps57
    go_wp2_with (at_lookup; (refine wp_lookG _ rfl _ _ 88 _ rfl _ _ Tryz.underlying88 Tryz.underlying3 bm (topL bm n) rfl H.out.1 (topL_D _ _) (t : Int) rfl _ (topL_mem htn) ?_))
    go_ret
    exact ⟨true, rfl, by simp [HT.out], rfl⟩
  · have HT := Lib.hid ht
    have HN := Lib.hid (show t ∉ (topL bm n).map (·.1) from fun h => ht (topL_key.1 h))
    clear ht
    go_enter Tryz.func57, Tryz.ntmps57
    go_wp2_with (at_lookup; (refine wp_missG _ rfl _ _ 88 _ rfl _ _ Tryz.underlying88 Tryz.underlying3 bm (topL bm n) rfl H.out.1 t rfl HN.out _ (zeroM _) ?_))
    go_ret
    exact ⟨false, rfl, by simp [HT.out], rfl⟩

set_option maxRecDepth 20000 in
set_option maxHeartbeats 3200000 in
theorem implRoadsDirect_any (A : Option Addr) (n a c : Int) (len cap : Nat) (xs : List T3) (w : World) (h : SlE 3 enc3 w A len xs) (hn : len ≤ 16777216) :
    Calls Tryz.prog 204 #[.int .i64 n, .slice A len cap, .int .i64 a, .int .i64 c] w (Only (.int .i64 (directV n xs a c)) w) := by
  have HM := Lib.hid (mapRoads_any A n len cap xs w h hn)
  have HV1 := Lib.hid (fun (hok : RoadOk n xs) (v : Int) (h : Edge xs a c v) => directV_edge hok h)
  have HV2 := Lib.hid (fun (h : RoadOk n xs → ∀ w, ¬ Edge xs a c w) => directV_none h)
  clear h
  generalize directV n xs a c = v at *
  have hln := look_none c
  go_enter Tryz.func204, Tryz.ntmps204
  go_wp2_with fail
  refine HM.out.mono ?_
  rintro e w2 ⟨hb, ⟨hok, m, bm, rfl, rfl, -, hg⟩ | ⟨hno, rfl⟩⟩
  rotate_left
  · have HB := Lib.hid hb
    have HE := Lib.hid (HV2.out (fun h => absurd h hno))
    clear hb hno
    go_wp2_with fail
    go_ret
    exact ⟨ret_int HE.out.symm, HB.out⟩
  have HB := Lib.hid hb
  have HG := Lib.hid hg
  have HK := Lib.hid hok
  clear hb hg hok
  by_cases ha : 0 ≤ a ∧ a < m
  rotate_left
  · have HN := Lib.hid (show a ∉ (topL bm m).map (·.1) from fun h => ha (topL_key.1 h))
    have HE := Lib.hid (HV2.out (fun h w he => ha (by have := edge_bd h he; omega)))
    clear ha
    go_wp2_with (at_lookup; (refine wp_missG _ rfl _ _ 88 _ rfl _ _ Tryz.underlying88 Tryz.underlying3 bm (topL bm m) rfl HG.out.1 a rfl HN.out _ (zeroM _) ?_))
    go_ret
    exact ⟨ret_int HE.out.symm, HB.out⟩
  obtain ⟨a, rfl⟩ : ∃ k : Nat, a = k := ⟨a.toNat, by omega⟩
  have ham : a < m := by omega
  clear ha
  by_cases hc : c ∈ (nbr xs a).map (·.1)
  · obtain ⟨⟨c', u⟩, hu, hcc⟩ := List.mem_map.1 hc
    dsimp only at hcc
    subst hcc
    have HE := Lib.hid (HV1.out HK.out u (nbr_edge hu))
    have HU := Lib.hid (valL_mem hu)
    have HD := Lib.hid (show KeysD (valL (nbr xs a)) by unfold KeysD; rw [valL_keys]; have := nbr_keysT (n := m) (xs := xs) (j := xs.length) (by rw [List.take_length]; exact HK.out.2.2.2) a; rw [List.take_length] at this; exact this)
    clear hc hu
    go_wp2_with (first
      | (at_lookup; (refine wp_lookG _ rfl _ _ 88 _ rfl _ _ Tryz.underlying88 Tryz.underlying3 bm (topL bm m) rfl HG.out.1 (topL_D _ _) (a : Int) rfl _ (topL_mem ham) ?_))
      | (at_lookup; (refine wp_lookG _ rfl _ _ 91 _ rfl _ _ Tryz.underlying91 Tryz.underlying3 (bm + 1 + a) (valL (nbr xs a)) rfl (HG.out.2 a ham) HD.out _ rfl _ HU.out ?_)))
    go_ret
    exact ⟨ret_int HE.out.symm, HB.out⟩
  · have HN := Lib.hid (show c ∉ (valL (nbr xs a)).map (·.1) by rw [valL_keys]; exact hc)
    have HE := Lib.hid (HV2.out (fun h w he => hc (List.mem_map.2 ⟨_, edge_nbr HK.out.2.2.2 he, rfl⟩)))
    clear hc
    go_wp2_with (first
      | (at_lookup; (refine wp_lookG _ rfl _ _ 88 _ rfl _ _ Tryz.underlying88 Tryz.underlying3 bm (topL bm m) rfl HG.out.1 (topL_D _ _) (a : Int) rfl _ (topL_mem ham) ?_))
      | (at_lookup; (refine wp_missG _ rfl _ _ 91 _ rfl _ _ Tryz.underlying91 Tryz.underlying3 (bm + 1 + a) (valL (nbr xs a)) rfl (HG.out.2 a ham) c rfl HN.out _ (zeroI _) ?_)))
    go_ret
    exact ⟨ret_int HE.out.symm, HB.out⟩
end Go.Proofs.YtgjllminidlolaaGreatDoor
/- Contracts: slices.Grow of nil and slices.Concat, at []impl.Road. -/
set_option linter.unusedVariables false
namespace Go.Proofs.YtgjllminidlolaaGreatDoor
open Go.RowKit

theorem info_conR : (Tryz.prog.info? 43).map (fun i => (i.zero, i.size, i.bytes)) = some (some (.agg #[.int .i64 0, .int .i64 0, .int .i64 0]), 3, 24) := by kernel_rfl

set_option maxRecDepth 20000 in
set_option maxHeartbeats 800000 in
theorem growR_any (n : Nat) (w : World) (hn : n ≤ 16777216) :
    Calls Tryz.prog 220 #[.slice none 0 0, .int .i64 n] w (RetOwn 3 enc3 43 [] w) := by
  obtain ⟨i0, hi, hz0, hz1, hz2⟩ := info_parts info_conR
  have HI := Lib.hid hi
  have HZ0 := Lib.hid hz0
  have HZ1 := Lib.hid hz1
  have HZ2 := Lib.hid hz2
  clear hi hz0 hz1 hz2
  by_cases h0 : 0 < n
  · have h0' : 0 < (n : Int) := by omega
    go_enter Tryz.func220, Tryz.ntmps220
    go_wp2_with (at_builtin; refine Lib.wpList_append_run _ rfl _ _ _ _ rfl _ _ rfl rfl _ _ (Lib.run_append_nil_zeros w 38 3 _ 43 i0 _ .i64 .i64 Tryz.underlying38 Tryz.underlying3 HI.out HZ0.out n h0 (by rw [HZ1.out]; omega) (by omega) (by rw [HZ2.out]; omega)) ?_)
    go_ret
    exact ⟨_, rfl, World.ownsRow_made w.drew _ _ (Nat.le_refl _) (grownCap_le_maxLen w n 0 43 (by unfold maxLen; omega)) (by
      have hge := grownCap_ge w n 0 43
      simp only [Array.size_append, size_zeroCells]
      show n * 3 + (grownCap w n 0 43 - n) * 3 = _
      omega), below_alloc (below_drew (Below.refl _ _)) _⟩
  · have e : n = 0 := by omega
    subst e
    go_enter Tryz.func220, Tryz.ntmps220
    go_wp2
    go_ret
    exact ⟨_, rfl, World.ownsRow_nil _ _ _ _, Below.refl _ _⟩

set_option maxHeartbeats 800000 in
theorem concatR_any {A : Option Addr} {m cap : Nat} {ss : List (Sn T3)} {w : World} (h : SlS 3 enc3 w A m ss) (hm : m ≤ 1024) (hl : snLen ss ≤ 4194304) :
    Calls Tryz.prog 203 #[.slice A m cap] w (RetOwn 3 enc3 43 (snAll ss) w) := by
  have H := Lib.hid h
  clear h
  go_enter Tryz.func203, Tryz.ntmps203
  go_wp2
  go_loop [3, 11, 5] (fun z i _ => ∃ j : Nat, j ≤ m ∧ i = .int .i64 j ∧ z = .int .i64 (snLen (ss.take j))) (fun _ i _ => m - (intOf i).toNat)
  case atStart => exact ⟨0, by omega, rfl, rfl⟩
  case round =>
    obtain ⟨j, hj, rfl, rfl⟩ := hrel
    have ht := snLen_take ss j
    by_cases hjm : j < m
    · obtain ⟨b, off, s, rfl, hbl, hx, hd, hc⟩ := H.out.1.at_ hjm
      have hc0 := hc 0 _ rfl
      simp only [Nat.mul_one, Nat.add_zero] at hc0
      have HX := Lib.hid (snLen_next hx)
      have ht1 := snLen_take ss (j + 1)
      rw [HX.out] at ht1
      obtain ⟨sA, sn, sc, sxs⟩ := s
      simp only at hc0 ht1 HX
      clear hx hd hc
      generalize snLen (ss.take j) = z at *
      go_wp2
      go_round
      case rel => exact ⟨j + 1, by omega, by go_num, by rw [HX.out]; go_num⟩
      case measure => simp [intOf]; omega
    · have e : j = m := by omega
      subst e
      have hx : ss.take j = ss := List.take_of_length_le (by have := H.out.1.len; omega)
      rw [hx]
      clear hx ht
      have HL := Lib.hid hl
      clear hl
      generalize hz : snLen ss = z
      have HZ := Lib.hid hz
      have hzl : z ≤ 4194304 := by rw [← hz]; exact HL.out
      clear hz
      go_wp2_with (go_at_call 220; refine (growR_any z w (by omega)).mono ?_; rintro e w1 ⟨v, rfl, hown, hb1⟩; have HO := Lib.hid hown; have HB := Lib.hid hb1; clear hown hb1)
      go_loopw [6, 27, 8] (fun s i _ wr => ∃ q : Nat, q ≤ j ∧ i = .int .i64 q ∧ OwnE 3 enc3 43 w.heap.size wr s (snAll (ss.take q)) ∧ Below w.heap.size w wr) (fun _ i _ _ => j - (intOf i).toNat)
      case atStart => exact ⟨0, by omega, rfl, HO.out, HB.out⟩
      case round =>
        obtain ⟨q, hq, rfl, hown, hbr⟩ := hrel
        have HR := Lib.hid hbr
        have HW := Lib.hid hown
        have hbs := hbr.size
        clear hown hbr
        by_cases hqm : q < j
        · obtain ⟨b, off, s, rfl, hbl, hx, hd, hc⟩ := (H.out.1.below HR.out).at_ hqm
          have hc0 := hc 0 _ rfl
          simp only [Nat.mul_one, Nat.add_zero] at hc0
          have HX := Lib.hid (snAll_next hx)
          have HS := Lib.hid ((H.out.2 s (mem_at hx)).below HR.out)
          have hlen : (snAll (ss.take q)).length + s.n ≤ 4194304 := by
            have h1 := snLen_next hx
            have h2 := snLen_take ss (q + 1)
            have h3 : SlS 3 enc3 w (some ⟨b, off, none⟩) (ss.take q).length (ss.take q) := ⟨⟨rfl, fun hn => by
              obtain ⟨b', off', hA, hlt, hcc⟩ := H.out.1.2 (by have := List.length_take_le q ss; omega)
              exact ⟨b', off', hA, hlt, fun jj p hp => hcc jj p (by rw [List.getElem?_take] at hp; split at hp; exact hp; cases hp)⟩⟩, fun s' hs' => H.out.2 s' (mem_take_of hs')⟩
            rw [h3.all_len]
            have := HL.out
            omega
          obtain ⟨sA, sn, sc, sxs⟩ := s
          simp only at hc0 HX HS hlen
          clear hx hd hc
          go_wp2_with (at_builtin; refine wpList_cat (bytes := 24) enc3_len enc3_one (by omega) rfl _ _ _ rfl Tryz.underlying38 info_conR rfl _ (snAll (ss.take q)) rfl HW.out rfl HS.out (by omega) (by unfold maxLen; omega) hbs ?_; intro v' w' hown' hg'; have HO' := Lib.hid hown'; have HB' := Lib.hid (below_grown HR.out hg' HW.out (Nat.le_refl _)); clear hown' hg')
          go_roundw
          case rel => exact ⟨q + 1, by omega, by go_num, by rw [HX.out]; exact HO'.out, HB'.out⟩
          case measure => simp [intOf]; omega
        · have hx : ss.take q = ss := List.take_of_length_le (by have := H.out.1.len; omega)
          rw [hx] at HW
          clear hx
          go_wp2
          go_ret
          exact ⟨_, rfl, HW.out, HR.out⟩
end Go.Proofs.YtgjllminidlolaaGreatDoor
/- Contracts: RoadsAdd. -/
set_option linter.unusedVariables false
namespace Go.Proofs.YtgjllminidlolaaGreatDoor
open Go.RowKit

theorem road_pre {n : Int} {xs ys : List T3} (h : RoadOk n (xs ++ ys)) : RoadOk n xs := by
  have := road_take h xs.length
  rwa [List.take_left'  rfl] at this
set_option maxRecDepth 20000 in
set_option maxHeartbeats 1600000 in
theorem implRoadsAdd_no1 (A : Option Addr) (n : Int) (len cap : Nat) (xs : List T3) (x y : Int) (z : Int) (w : World) (h : SlE 3 enc3 w A len xs) (hn : len ≤ 1048577) (hB : ¬ RoadOk n xs) :
    Calls Tryz.prog 176 #[.int .i64 n, .slice A len cap, .agg #[.int .i64 x, .int .i64 y, .int .i64 z]] w (RetOwnB 3 enc3 43 ([] : List T3) false w) := by
  have H := Lib.hid h
  have HN := Lib.hid hB
  have HB0 := Lib.hid (below_alloc (Below.refl w.heap.size w) (.cells #[.int .i64 x, .int .i64 y, .int .i64 z] 43))
  clear h hB
  go_enter Tryz.func176, Tryz.ntmps176
  go_wp2_with fail
  refine (implRoadsValid_any A n len cap xs _ (H.out.below HB0.out) (by omega)).mono ?_
  intro e w2 hp
  obtain ⟨rfl, hb2⟩ := hp.no HN.out
  have HB2 := Lib.hid (below_trans HB0.out hb2)
  clear hb2 hp
  go_wp2_with fail
  go_ret2
  exact ⟨_, rfl, own_new w2 _ _ HB2.out.size enc3_len [] #[] rfl (by simp) rfl, below_alloc HB2.out _⟩
set_option maxRecDepth 20000 in
set_option maxHeartbeats 1600000 in
/-- RoadsAdd of the program. -/
theorem implRoadsAdd_any (A : Option Addr) (n : Int) (len cap : Nat) (xs : List T3) (x y : Int) (z : Int) (ys : List T3) (b : Bool) (w : World) (h : SlE 3 enc3 w A len xs) (hn : len ≤ 1048577)
    (hb : (b = true ∧ RoadOk n (xs ++ [⟨x, y, z⟩]) ∧ ys = xs ++ [⟨x, y, z⟩]) ∨ (b = false ∧ ¬ RoadOk n (xs ++ [⟨x, y, z⟩]) ∧ ys = [])) :
    Calls Tryz.prog 176 #[.int .i64 n, .slice A len cap, .agg #[.int .i64 x, .int .i64 y, .int .i64 z]] w (RetOwnB 3 enc3 43 ys b w) := by
  by_cases hx : RoadOk n xs
  rotate_left
  · obtain ⟨rfl, rfl⟩ : b = false ∧ ys = [] := by
      rcases hb with ⟨_, hJ, _⟩ | ⟨rfl, _, rfl⟩
      · exact absurd (road_pre hJ) hx
      · exact ⟨rfl, rfl⟩
    exact implRoadsAdd_no1 A n len cap xs x y z w h hn hx
  have H := Lib.hid h
  have HX := Lib.hid hx
  have HBB := Lib.hid hb
  have HB0 := Lib.hid (below_alloc (Below.refl w.heap.size w) (.cells #[.int .i64 x, .int .i64 y, .int .i64 z] 43))
  have HCL := Lib.hid (fun (W : World) (hW : Below (w.alloc (.cells #[.int .i64 x, .int .i64 y, .int .i64 z] 43)).heap.size (w.alloc (.cells #[.int .i64 x, .int .i64 y, .int .i64 z] 43)) W) => (show W.cell? ⟨w.heap.size, 0, none⟩ = some (.int .i64 x) ∧ W.cell? ⟨w.heap.size, 1, none⟩ = some (.int .i64 y) ∧ W.cell? ⟨w.heap.size, 2, none⟩ = some (.int .i64 z) from by
    have hr : ∀ j, W.cell? ⟨w.heap.size, j, none⟩ = (#[.int .i64 x, .int .i64 y, .int .i64 z] : Array Value)[j]? := fun j => by
      rw [hW.cell (p := ⟨w.heap.size, j, none⟩) (by simp)]
      exact cell_of_row _ _ j _ 43 (0, 0) (heap_alloc_new w _)
    exact ⟨hr 0, hr 1, hr 2⟩))
  have HLX := Lib.hid h.len
  clear h hx hb
  go_enter Tryz.func176, Tryz.ntmps176
  go_wp2_with fail
  refine (implRoadsValid_any A n len cap xs _ (H.out.below HB0.out) (by omega)).mono ?_
  intro e w2 hp
  obtain ⟨rfl, hb2⟩ := hp.yes HX.out
  obtain ⟨c0, c1, c2⟩ := HCL.out _ hb2
  have HB2 := Lib.hid (below_trans HB0.out hb2)
  have S2 := Lib.hid (slE_new (k := 3) (enc := enc3) w2 43 enc3_len [⟨x, y, z⟩] #[.int .i64 x, .int .i64 y, .int .i64 z] rfl (by simp [maxLen]) (n := 1) rfl (g := w2.heap.size) rfl)
  have hs := slS_new (k := 3) (enc := enc3) (w := w2.alloc (.cells #[.int .i64 x, .int .i64 y, .int .i64 z] 43)) [⟨A, len, cap, xs⟩, ⟨some ⟨w2.heap.size, 0, none⟩, 1, 1, [⟨x, y, z⟩]⟩] #[.slice A len cap, .slice (some ⟨w2.heap.size, 0, none⟩) 1 1] 38 rfl (m := 2) rfl (by
    intro s hs
    simp only [List.mem_cons, List.not_mem_nil, or_false] at hs
    rcases hs with rfl | rfl
    · exact (H.out.below HB2.out).alloc _
    · exact S2.out)
  rw [show (w2.alloc (.cells #[.int .i64 x, .int .i64 y, .int .i64 z] 43)).heap.size = w2.heap.size + 1 by simp] at hs
  have HS := Lib.hid hs
  clear hb2 hp hs HCL
  go_wp2_with fail
  refine (concatR_any HS.out (by omega) (by simp [snLen]; omega)).mono ?_
  rintro e w3 ⟨v, rfl, hown, hb3⟩
  have HB3 := Lib.hid (below_trans (below_alloc (below_alloc HB2.out _) _) hb3)
  have ea : snAll [(⟨A, len, cap, xs⟩ : Sn T3), ⟨some ⟨w2.heap.size, 0, none⟩, 1, 1, [⟨x, y, z⟩]⟩] = xs ++ [⟨x, y, z⟩] := by simp [snAll]
  rw [ea] at hown
  have hown0 := hown.base_le (base' := w.heap.size) (by have := HB2.out.size; simp; omega)
  obtain ⟨A1, c1', rfl, hs1⟩ := hown0.sl enc3_len
  have HS1 := Lib.hid hs1
  have HO1 := Lib.hid hown0
  have hl3 : (xs ++ [(⟨x, y, z⟩ : T3)]).length ≤ 1048578 := by rw [List.length_append, HLX.out]; simp; omega
  clear hown hb3 ea hown0 hs1 c0 c1 c2
  generalize (xs ++ [(⟨x, y, z⟩ : T3)]).length = len3 at *
  go_wp2_with fail
  refine (implRoadsValid_any A1 n len3 c1' (xs ++ [⟨x, y, z⟩]) w3 HS1.out (by omega)).mono ?_
  intro e w4 hp
  by_cases hj : RoadOk n (xs ++ [⟨x, y, z⟩])
  · obtain ⟨rfl, hb4⟩ := hp.yes hj
    obtain ⟨rfl, rfl⟩ : b = true ∧ ys = xs ++ [⟨x, y, z⟩] := by
      rcases HBB.out with ⟨rfl, _, rfl⟩ | ⟨_, hJ, _⟩
      · exact ⟨rfl, rfl⟩
      · exact absurd hj hJ
    have HB4 := Lib.hid (below_trans HB3.out hb4)
    have HO4 := Lib.hid (HO1.out.below hb4 (Nat.le_refl _))
    clear hb4 hp hj HBB
    go_wp2_with fail
    go_ret2
    exact ⟨_, rfl, HO4.out, HB4.out⟩
  · obtain ⟨rfl, hb4⟩ := hp.no hj
    obtain ⟨rfl, rfl⟩ : b = false ∧ ys = [] := by
      rcases HBB.out with ⟨_, hJ, _⟩ | ⟨rfl, _, rfl⟩
      · exact absurd hJ hj
      · exact ⟨rfl, rfl⟩
    have HB4 := Lib.hid (below_trans HB3.out hb4)
    clear hb4 hp hj HBB
    go_wp2_with fail
    go_ret2
    exact ⟨_, rfl, own_new w4 _ _ HB4.out.size enc3_len [] #[] rfl (by simp) rfl, below_alloc HB4.out _⟩

set_option maxRecDepth 20000 in
set_option maxHeartbeats 3200000 in
/-- RoadsAdd of the reference. -/
theorem specRoadsAdd_any (A : Option Addr) (n : Int) (len cap : Nat) (xs : List T3) (x y : Int) (z : Int) (ys : List T3) (b : Bool) (w : World) (h : SlE 3 enc3 w A len xs) (hn : len ≤ 1048577) (h1 : -1000000 ≤ n) (h2 : n ≤ 1000000)
    (hb : (b = true ∧ RoadOk n (xs ++ [⟨x, y, z⟩]) ∧ ys = xs ++ [⟨x, y, z⟩]) ∨ (b = false ∧ ¬ RoadOk n (xs ++ [⟨x, y, z⟩]) ∧ ys = [])) :
    Calls Tryz.prog 73 #[.int .i64 n, .slice A len cap, .agg #[.int .i64 x, .int .i64 y, .int .i64 z]] w (RetOwnB 3 enc3 43 ys b w) := by
  have H := Lib.hid h
  have HB := Lib.hid hb
  have hl1 := h.len
  have HL := Lib.hid hl1
  clear h hb hl1
  have n1 : (([] : List T3).length + len) * 24 ≤ 140737488355328 ∧ ([] : List T3).length + len ≤ maxLen := by rw [List.length_nil]; exact ⟨by omega, by unfold maxLen; omega⟩
  have n2 : (([] ++ xs).length + 1) * 24 ≤ 140737488355328 ∧ ([] ++ xs).length + 1 ≤ maxLen := by rw [List.nil_append, HL.out]; exact ⟨by omega, by unfold maxLen; omega⟩
  have N1 := Lib.hid n1
  have N2 := Lib.hid n2
  clear n1 n2
  generalize hC : Obj.cells #[.int .i64 x, .int .i64 y, .int .i64 z] 43 = C
  have HC := Lib.hid hC
  -- the world behind the box, and what may follow it
  have b0 := below_alloc (Below.refl w.heap.size w) C
  have hz0 : w.heap.size ≤ (w.alloc C).heap.size := by simp
  have hsh : ∀ W, Below (w.heap.size + 1) (w.alloc C) W → Below w.heap.size w W := fun W hW => b0.trans (hW.mono (by omega))
  have hcl : ∀ W, Below (w.heap.size + 1) (w.alloc C) W → W.cell? ⟨w.heap.size, 0, none⟩ = some (.int .i64 x) ∧ W.cell? ⟨w.heap.size, 1, none⟩ = some (.int .i64 y) ∧ W.cell? ⟨w.heap.size, 2, none⟩ = some (.int .i64 z) := by
    intro W hW
    have hr : ∀ j, W.cell? ⟨w.heap.size, j, none⟩ = (#[.int .i64 x, .int .i64 y, .int .i64 z] : Array Value)[j]? := fun j => by
      rw [hW.cell (p := ⟨w.heap.size, j, none⟩) (by simp), ← HC.out]
      exact cell_of_row _ _ j _ 43 (0, 0) (heap_alloc_new w _)
    exact ⟨hr 0, hr 1, hr 2⟩
  have HSH := Lib.hid hsh
  have HCL := Lib.hid hcl
  have ow : ∀ (W : World) (g : Nat), w.heap.size + 1 ≤ W.heap.size → g = W.heap.size → OwnE 3 enc3 43 (w.heap.size + 1) (W.alloc (.cells #[] 43)) (.slice (some ⟨g, 0, none⟩) 0 0) [] :=
    fun W g h1 h2 => own_new' W _ _ h1 enc3_len [] #[] rfl (by simp) rfl h2
  have sn : ∀ (W : World) (g : Nat), g = W.heap.size → SlE 3 enc3 (W.alloc C) (some ⟨g, 0, none⟩) 1 [⟨x, y, z⟩] :=
    fun W g h2 => HC.out ▸ slE_new W _ enc3_len [⟨x, y, z⟩] #[.int .i64 x, .int .i64 y, .int .i64 z] rfl (by simp [maxLen]) rfl h2
  -- the three worlds in which the first append may run
  have z1 : (w.alloc C).heap.size = w.heap.size + 1 := by simp
  have z2 : ((w.alloc C).alloc C).heap.size = w.heap.size + 1 + 1 := by simp
  have z3 : ((w.alloc C).alloc (.cells #[] 43)).heap.size = w.heap.size + 1 + 1 := by simp
  have B0 := Lib.hid (Below.refl (w.heap.size + 1) (w.alloc C)).drew
  have Ba := Lib.hid ((Below.refl (w.heap.size + 1) (w.alloc C)).alloc (by omega) (.cells #[] 43)).drew
  have Bb := Lib.hid (((Below.refl (w.heap.size + 1) (w.alloc C)).alloc (by omega) (.cells #[] 43)).alloc (by omega) C).drew
  have Bc := Lib.hid ((Below.refl (w.heap.size + 1) (w.alloc C)).alloc (by omega) C).drew
  have Bd := Lib.hid (((Below.refl (w.heap.size + 1) (w.alloc C)).alloc (by omega) C).alloc (by omega) (.cells #[] 43)).drew
  have Oa := Lib.hid (ow (w.alloc C) (w.heap.size + 1) (by omega) z1.symm).drew
  have Ob := Lib.hid ((ow (w.alloc C) (w.heap.size + 1) (by omega) z1.symm).alloc C).drew
  have Od := Lib.hid (ow ((w.alloc C).alloc C) (w.heap.size + 1 + 1) (by omega) z2.symm).drew
  have Sb := Lib.hid (sn ((w.alloc C).alloc (.cells #[] 43)) (w.heap.size + 1 + 1) z3.symm).drew
  have Sd := Lib.hid ((sn (w.alloc C) (w.heap.size + 1) z1.symm).alloc (.cells #[] 43)).drew
  have Xa := Lib.hid (show w.heap.size + 1 ≤ ((w.alloc C).alloc (.cells #[] 43)).drew.heap.size from by simp)
  have Xb := Lib.hid (show w.heap.size + 1 ≤ (((w.alloc C).alloc (.cells #[] 43)).alloc C).drew.heap.size from by simp <;> omega)
  have Xd := Lib.hid (show w.heap.size + 1 ≤ (((w.alloc C).alloc C).alloc (.cells #[] 43)).drew.heap.size from by simp)
  have Ra := Lib.hid (show ∀ j, Value.ownBlock (.slice (some ⟨w.heap.size + 1, 0, none⟩) 0 0) = some j → w.heap.size + 1 ≤ j from fun j hj => by simp [Value.ownBlock] at hj; omega)
  have Rd := Lib.hid (show ∀ j, Value.ownBlock (.slice (some ⟨w.heap.size + 1 + 1, 0, none⟩) 0 0) = some j → w.heap.size + 1 ≤ j from fun j hj => by simp [Value.ownBlock] at hj; omega)
  have Nb := Lib.hid (show Value.ownBlock (.slice (some ⟨w.heap.size + 1, 0, none⟩) 0 0) ≠ some (w.heap.size + 1 + 1) from by simp [Value.ownBlock])
  have Nd := Lib.hid (show Value.ownBlock (.slice (some ⟨w.heap.size + 1 + 1, 0, none⟩) 0 0) ≠ some (w.heap.size + 1) from by simp [Value.ownBlock])
  have SN := Lib.hid sn
  clear ow sn z1 z2 z3 hz0 hsh hcl b0
  subst hC
  go_enter Tryz.func73, Tryz.ntmps73
  go_wp2_with fail
  go_region_held3 (fun W => W.cell? ⟨w.heap.size, 0, none⟩ = some (.int .i64 x) ∧ W.cell? ⟨w.heap.size, 1, none⟩ = some (.int .i64 y) ∧ W.cell? ⟨w.heap.size, 2, none⟩ = some (.int .i64 z))
    (first | exact HCL.out _ B0.out | exact HCL.out _ Ba.out | exact HCL.out _ Bb.out | exact HCL.out _ Bc.out | exact HCL.out _ Bd.out | (have := B1.out; exact HCL.out _ this) | (have := B1'.out; exact HCL.out _ this) | (have := B2.out; exact HCL.out _ this) | (have := B1.out.alloc X1.out (.cells #[.int .i64 x, .int .i64 y, .int .i64 z] 43); exact HCL.out _ this))
    (first
      | (refine step_cat (bytes := 24) (base := w.heap.size + 1) enc3_len enc3_one (Nat.succ_pos 2) rfl (.tmp 9) (.tmp 10) _ rfl Tryz.underlying38 info_conR rfl _ [] rfl Oa.out rfl (H.out.below (HSH.out _ Ba.out)) N1.out.1 N1.out.2 Xa.out ?_; intro v1 w1 hown1 hg1; have X1 := Lib.hid (Nat.le_trans Xa.out hg1.size); have B1 := Lib.hid (Ba.out.grown hg1 Xa.out Ra.out);  have O1 := Lib.hid hown1; clear hown1 hg1)
      | (refine step_cat (bytes := 24) (base := w.heap.size + 1) enc3_len enc3_one (Nat.succ_pos 2) rfl (.tmp 9) (.tmp 10) _ rfl Tryz.underlying38 info_conR rfl _ [] rfl Ob.out rfl (H.out.below (HSH.out _ Bb.out)) N1.out.1 N1.out.2 Xb.out ?_; intro v1 w1 hown1 hg1; have X1 := Lib.hid (Nat.le_trans Xb.out hg1.size); have B1 := Lib.hid (Bb.out.grown hg1 Xb.out Ra.out); have S1 := Lib.hid (Sb.out.grown hg1 Nb.out); have O1 := Lib.hid hown1; clear hown1 hg1)
      | (refine step_cat (bytes := 24) (base := w.heap.size + 1) enc3_len enc3_one (Nat.succ_pos 2) rfl (.tmp 9) (.tmp 10) _ rfl Tryz.underlying38 info_conR rfl _ [] rfl Od.out rfl (H.out.below (HSH.out _ Bd.out)) N1.out.1 N1.out.2 Xd.out ?_; intro v1 w1 hown1 hg1; have X1 := Lib.hid (Nat.le_trans Xd.out hg1.size); have B1 := Lib.hid (Bd.out.grown hg1 Xd.out Rd.out); have S1 := Lib.hid (Sd.out.grown hg1 Nd.out); have O1 := Lib.hid hown1; clear hown1 hg1)
      | (refine step_cat (bytes := 24) (base := w.heap.size + 1) enc3_len enc3_one (Nat.succ_pos 2) rfl (.tmp 11) (.tmp 13) _ rfl Tryz.underlying38 info_conR rfl _ _ rfl O1.out rfl S1.out N2.out.1 N2.out.2 X1.out ?_; intro v2 w2 hown2 hg2; have B2 := Lib.hid (B1.out.grown hg2 X1.out (fun j hj => (O1.out.lt j hj).1)); have O2 := Lib.hid hown2; clear hown2 hg2)
      | (go_loud (refine step_cat (bytes := 24) (base := w.heap.size + 1) enc3_len enc3_one (Nat.succ_pos 2) rfl (.tmp 11) (.tmp 13) _ rfl Tryz.underlying38 info_conR rfl _ _ rfl (O1.out.alloc _) rfl (SN.out w1 _ rfl) N2.out.1 N2.out.2 (Nat.le_trans X1.out (below_alloc (Below.refl _ w1) _).size) ?_; intro v2 w2 hown2 hg2; have B2 := Lib.hid ((B1.out.alloc X1.out _).grown hg2 (Nat.le_trans X1.out (below_alloc (Below.refl _ w1) _).size) (fun j hj => (O1.out.lt j hj).1)); have O2 := Lib.hid hown2; clear hown2 hg2)))
  all_goals
    have hown2 := O2.out.base_le (base' := w.heap.size) (Nat.le_succ _)
    have HB2 := Lib.hid (HSH.out _ B2.out)
    rw [List.nil_append] at hown2
    obtain ⟨A2, c2, rfl, hs2⟩ := hown2.sl enc3_len
    have HS2 := Lib.hid hs2
    have HO2 := Lib.hid hown2
    have hl3 : (xs ++ [(⟨x, y, z⟩ : T3)]).length ≤ 1048578 := by rw [List.length_append, HL.out]; simp; omega
    have B0' := Lib.hid hn
    clear hs2 hown2 O2 HSH HCL SN
    generalize (xs ++ [(⟨x, y, z⟩ : T3)]).length = len3 at *
    by_cases hz : RoadOk n (xs ++ [⟨x, y, z⟩])
    · obtain ⟨rfl, rfl⟩ : b = true ∧ ys = xs ++ [⟨x, y, z⟩] := by
        rcases HB.out with ⟨rfl, _, rfl⟩ | ⟨_, hJ, _⟩
        · exact ⟨rfl, rfl⟩
        · exact absurd hz hJ
      have HZ := Lib.hid hz
      clear hz
      go_wp2_with fail
      refine (specRoadsValid_any A2 n len3 c2 _ w2 HS2.out (by omega) h1 h2).mono ?_
      intro e w5 hp
      obtain ⟨rfl, hb5⟩ := hp.yes HZ.out
      have HB5 := Lib.hid (below_trans HB2.out hb5)
      have HO5 := Lib.hid (HO2.out.below hb5 (Nat.le_refl _))
      clear hb5 hp
      go_wp2
      go_ret2
      exact ⟨_, rfl, HO5.out, HB5.out⟩
    · obtain ⟨rfl, rfl⟩ : b = false ∧ ys = [] := by
        rcases HB.out with ⟨_, hJ, _⟩ | ⟨rfl, _, rfl⟩
        · exact absurd hJ hz
        · exact ⟨rfl, rfl⟩
      have HZ := Lib.hid hz
      clear hz
      go_wp2_with fail
      refine (specRoadsValid_any A2 n len3 c2 _ w2 HS2.out (by omega) h1 h2).mono ?_
      intro e w5 hp
      obtain ⟨rfl, hb5⟩ := hp.no HZ.out
      have HB5 := Lib.hid (below_trans HB2.out hb5)
      clear hb5 hp
      go_wp2
      go_ret2
      exact ⟨_, rfl, own_new w5 _ _ HB5.out.size enc3_len [] #[] rfl (by simp) rfl, below_alloc HB5.out _⟩
end Go.Proofs.YtgjllminidlolaaGreatDoor
