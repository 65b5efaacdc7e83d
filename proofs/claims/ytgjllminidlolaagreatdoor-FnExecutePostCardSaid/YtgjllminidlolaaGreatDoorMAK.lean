/- Texts of mine in one: RWalkM RWalkN RWalkO SameI EWalkA EMap. -/
import Derived.Test.YtgjllminidlolaaGreatDoorMAJ
import Derived.Test.YtgjllminidlolaaGreatDoorMAD
import Derived.BigQuiet
import Derived.Test.YtgjllminidlolaaGreatDoorMAB
import Derived.Deep.QuietTactic
import Derived.Test.YtgjllminidlolaaGreatDoorMAA
import Derived.Lib.ConvBytes
import Derived.MapKept
/- Contracts: roads of the program: where a shortest way goes on. -/
set_option linter.unusedVariables false
namespace Go.Proofs.YtgjllminidlolaaGreatDoor
open Go.RowKit Go.MapKept

/-- The towns with which a shortest way goes on. -/
def nxtL (xs : List T3) (F : Int → Int) (a : Int) : List Int := ((nbr xs a).filter fun p => decide (p.2 + F p.1 = F a)).map (·.1)
/-- How nexts ends. -/
def NextsRet (w : World) (P : List Int → Prop) (e : Ending) (w' : World) : Prop :=
  ∃ v ys, e = .returned v ∧ P ys ∧ OwnE 1 encI 3 w.heap.size w' v ys ∧ Below w.heap.size w w'
/-- While the towns are gone through. -/
def NxI (bm r t : Nat) (xs : List T3) (F : Int → Int) (w : World) (s : Value) (k : Nat) (W : World) : Prop :=
  ∃ (seen : List Nat) (ys : List Int), IterG W r (bm + 1 + t) (valL (nbr xs t)).length seen ∧ k = restC (valL (nbr xs t)).length seen ∧ OwnE 1 encI 3 w.heap.size W s ys ∧ s.ownBlock ≠ some r ∧ Below w.heap.size w W ∧
    (∀ y, y ∈ ys ↔ ∃ i u, i ∈ seen ∧ (nbr xs t)[i]? = some (y, u) ∧ u + F y = F t) ∧ ys.length + k ≤ (valL (nbr xs t)).length
theorem nodup_bd : ∀ (n : Nat) (l : List Int), l.Nodup → (∀ x ∈ l, 0 ≤ x ∧ x < n) → l.length ≤ n
  | 0, l, _, h => by
    cases l with
    | nil => simp
    | cons x l => have := h x (List.mem_cons_self ..); omega
  | n + 1, l, hn, h => by
    by_cases hm : (n : Int) ∈ l
    · have h1 := nodup_bd n (l.erase (n : Int)) (hn.erase _) (fun x hx => by
        have h2 := (hn.mem_erase_iff).1 hx
        have h3 := h x h2.2
        have h4 := h2.1
        omega)
      rw [List.length_erase_of_mem hm] at h1
      omega
    · have h1 := nodup_bd n l hn (fun x hx => by
        have h3 := h x hx
        have h4 : x ≠ (n : Int) := fun e => hm (e ▸ hx)
        omega)
      omega
theorem nbr_len8 {n : Nat} {xs : List T3} (hok : RoadOk n xs) (t : Int) : (nbr xs t).length ≤ n := by
  have h1 := nbr_keysT (n := n) (xs := xs) (j := xs.length) (by rw [List.take_length]; exact hok.2.2.2) t
  rw [List.take_length] at h1
  have h2 := nodup_bd n _ h1 (fun x hx => by
    obtain ⟨⟨v, w⟩, hv, rfl⟩ := List.mem_map.1 hx
    have := edge_bd hok (nbr_edge hv)
    exact ⟨this.2.2.1, this.2.2.2.1⟩)
  rw [List.length_map] at h2
  exact h2
theorem IterG.grownR {w w' : World} {r b n : Nat} {seen : List Nat} {row : Option Nat} (h : IterG w r b n seen) (hg : w.grownBy w' row) (hr : row ≠ some r) : IterG w' r b n seen := by
  have hl := h.lt
  obtain ⟨c0, h1, h2⟩ := h
  exact ⟨c0, h1, (hg.block r hl (fun e => hr e.symm)).trans h2⟩

theorem nxt_yes {l : List (Int × Int)} {F : Int → Int} {c : Int} {seen : List Nat} {ys : List Int} {i : Nat} {x u y : Int} (hu : l[i]? = some (x, u)) (he : u + F x = c) (h : y ∈ ys ↔ ∃ i u, i ∈ seen ∧ l[i]? = some (y, u) ∧ u + F y = c) :
    y ∈ ys ++ [x] ↔ ∃ i' u, i' ∈ seen ++ [i] ∧ l[i']? = some (y, u) ∧ u + F y = c := by
  rw [List.mem_append, h, List.mem_singleton]
  constructor
  · rintro (⟨i', u', h1, h2⟩ | rfl)
    · exact ⟨i', u', List.mem_append.2 (.inl h1), h2⟩
    · exact ⟨i, u, List.mem_append.2 (.inr (List.mem_singleton.2 rfl)), hu, he⟩
  · rintro ⟨i', u', h1, h2, h3⟩
    rcases List.mem_append.1 h1 with h1 | h1
    · exact .inl ⟨i', u', h1, h2, h3⟩
    · rw [List.mem_singleton] at h1
      subst h1
      rw [hu] at h2
      injection h2 with h2
      injection h2 with h2 _
      exact .inr h2.symm
theorem nxt_no {l : List (Int × Int)} {F : Int → Int} {c : Int} {seen : List Nat} {ys : List Int} {i : Nat} {x u y : Int} (hu : l[i]? = some (x, u)) (he : ¬ u + F x = c) (h : y ∈ ys ↔ ∃ i u, i ∈ seen ∧ l[i]? = some (y, u) ∧ u + F y = c) :
    y ∈ ys ↔ ∃ i' u, i' ∈ seen ++ [i] ∧ l[i']? = some (y, u) ∧ u + F y = c := by
  rw [h]
  constructor
  · rintro ⟨i', u', h1, h2⟩
    exact ⟨i', u', List.mem_append.2 (.inl h1), h2⟩
  · rintro ⟨i', u', h1, h2, h3⟩
    rcases List.mem_append.1 h1 with h1 | h1
    · exact ⟨i', u', h1, h2, h3⟩
    · rw [List.mem_singleton] at h1
      subst h1
      rw [hu] at h2
      injection h2 with h2
      injection h2 with h2 h4
      subst h2 h4
      exact absurd h3 he

set_option maxRecDepth 20000 in
set_option maxHeartbeats 6400000 in
theorem nexts_any (n bm fb t : Nat) (xs : List T3) (l : List (Int × Int)) (F : Int → Int) (w : World) (hg : GraphAt n bm xs w) (hok : RoadOk n xs) (ht : t < n) (hm : MapG w fb (valL l)) (hd : (l.map (·.1)).Nodup)
    (hl : ∀ v u, (v, u) ∈ nbr xs t → (v, F v) ∈ l) (hlt : ((t : Int), F t) ∈ l) (hF : ∀ v u, (v, u) ∈ nbr xs t → 0 ≤ F v ∧ F v ≤ 1000) (hne : ∃ v u, (v, u) ∈ nbr xs t ∧ u + F v = F t) :
    Calls Tryz.prog 53 #[.map (some bm), .map (some fb), .int .i64 t] w
      (NextsRet w (fun ys => (∀ y, y ∈ ys ↔ ∃ u, (y, u) ∈ nbr xs t ∧ u + F y = F t) ∧ ys.Pairwise (· ≤ ·) ∧ 0 < ys.length)) := by
  have HG := Lib.hid hg
  have HOK := Lib.hid hok
  have HM := Lib.hid hm
  have HKD := Lib.hid (show KeysD (valL l) by unfold KeysD; rw [valL_keys]; exact hd)
  have HL := Lib.hid hl
  have HLT := Lib.hid (valL_mem hlt)
  have HF := Lib.hid hF
  have HNE := Lib.hid hne
  have hfb := hm.lt
  have h8 : (valL (nbr xs t)).length ≤ 8 := by rw [valL_len]; exact Nat.le_trans (nbr_len8 hok t) (by have := hok.2.1; omega)
  have H8 := Lib.hid h8
  clear hg hok hm hd hl hlt hF hne h8
  go_enter Tryz.func53, Tryz.ntmps53
  have HB0 := Lib.hid (below_alloc (Below.refl w.heap.size w) (.cells #[] 3))
  have hs0 : (w.alloc (.cells #[] 3)).heap.size = w.heap.size + 1 := by show (w.heap.push _).size = _; rw [Array.size_push]
  have HS0 := Lib.hid hs0
  have HO0 := Lib.hid (own_new (enc := encI) (k := 1) w 3 w.heap.size (Nat.le_refl _) encI_len [] #[] rfl (by simp) rfl)
  clear hs0
  go_wp2_with (first
    | (at_lookup; (refine wp_lookG _ rfl _ _ 88 _ rfl _ _ Tryz.underlying88 Tryz.underlying3 bm (topL bm n) rfl (HG.out.below HB0.out).1 (topL_D _ _) (t : Int) rfl _ (topL_mem ht) ?_))
    | (at_range; (refine wp_rangeG _ rfl _ 91 rfl _ _ Tryz.underlying91 (bm + 1 + t) (valL (nbr xs t)) rfl ((HG.out.below HB0.out).2 t ht) ?_); intro w5 hi5 hg5 hs5; have HI5 := Lib.hid hi5; have HG5 := Lib.hid hg5; have HS5 := Lib.hid hs5; clear hi5 hg5 hs5; go_frame))
  have HB5 := Lib.hid (HB0.out.trans ((below_of_grown0 HG5.out).mono HB0.out.size))
  have HO5 := Lib.hid (HO0.out.below (below_of_grown0 HG5.out) (Nat.le_refl _))
  have hi6 := HI5.out
  rw [HS0.out] at hi6
  have HI6 := Lib.hid hi6
  have hrw : w.heap.size + 1 < w5.heap.size := by have := HS5.out; have := HS0.out; omega
  clear hi6 HI5
  go_wp2_with fail
  go_loopg [7, 8, 9] (restC (valL (nbr xs t)).length []) (fun k s _ _ wl => NxI bm (w.heap.size + 1) t xs F w s k wl ∧ w.heap.size + 1 < wl.heap.size)
  case atStart => exact ⟨⟨[], [], HI6.out, rfl, HO5.out, fun e => absurd (show w.heap.size = w.heap.size + 1 from Option.some.inj e) (by omega), HB5.out, fun y => ⟨fun h => (by cases h), fun ⟨_, _, h, _⟩ => (by cases h)⟩, by rw [restC_nil]; simp⟩, hrw⟩
  case round =>
    obtain ⟨⟨seen, ys, hit, hk2, hown, hne, hbl, hy, hcnt⟩, hrl⟩ := hrel
    have JI := Lib.hid hit
    have JK := Lib.hid hk2
    have JO := Lib.hid hown
    have JN := Lib.hid hne
    have JB := Lib.hid hbl
    have JY := Lib.hid hy
    have JC := Lib.hid hcnt
    clear hit hk2 hown hne hbl hy hcnt HI6 HO5
    go_wp2_with (at_next; (refine wp_nextG _ rfl _ rfl (w.heap.size + 1) (bm + 1 + t) (valL (nbr xs t)) seen rfl ((HG.out.below JB.out).2 t ht) JI.out ?_ ?_))
    · intro hall
      have hmem : ∀ y, y ∈ ys ↔ ∃ u, (y, u) ∈ nbr xs t ∧ u + F y = F t := fun y => by
        rw [JY.out y]
        constructor
        · rintro ⟨i, u, _, h2, h3⟩
          exact ⟨u, List.mem_of_getElem? h2, h3⟩
        · rintro ⟨u, h1, h2⟩
          obtain ⟨i, hi⟩ := List.getElem?_of_mem h1
          exact ⟨i, u, hall i (by rw [valL_len]; exact (List.getElem?_eq_some_iff.1 hi).1), hi, h2⟩
      have hpos : 0 < ys.length := by
        obtain ⟨v, u, h1, h2⟩ := HNE.out
        exact List.length_pos_of_mem ((hmem v).2 ⟨u, h1, h2⟩)
      obtain ⟨q, hq⟩ : ∃ q, ys.length = q := ⟨_, rfl⟩
      obtain ⟨A, c, rfl, -, -⟩ := JO.out.slc encI_len hq
      obtain ⟨g, rfl, -, hg1, -, -⟩ := JO.out.form hpos
      have HR := Lib.hid (show (∀ y, y ∈ isort ltI ys ↔ ∃ u, (y, u) ∈ nbr xs t ∧ u + F y = F t) ∧ (isort ltI ys).Pairwise (· ≤ ·) ∧ 0 < (isort ltI ys).length from
        ⟨fun y => by rw [(isort_perm ys).mem_iff]; exact hmem y, isort_sorted ys, by rw [isort_len]; exact hpos⟩)
      have hq12 : q ≤ 12 := by have := JC.out; have := H8.out; omega
      have HQ := Lib.hid hq
      clear hall hmem hpos hq
      go_wp2_with fail
      refine (sortI_any w.heap.size g q c ys wr JO.out HQ.out hq12).mono ?_
      rintro e w6 ⟨rfl, hown6, hg6⟩
      have HO6 := Lib.hid hown6
      have HB6 := Lib.hid (JB.out.grown hg6 JB.out.size (fun j hj => by injection hj with hj; omega))
      clear hown6 hg6
      go_wp2_with fail
      go_ret
      exact ⟨_, _, rfl, HR.out, HO6.out, HB6.out⟩
    · intro i x v w1 hi hns hit1 hg1 hs1 hen
      obtain ⟨u, rfl, hu⟩ := valL_at hi
      have hmu := List.mem_of_getElem? hu
      have heb := edge_bd HOK.out (nbr_edge hmu)
      have hfx := HF.out x u hmu
      have hil : i < (valL (nbr xs t)).length := (List.getElem?_eq_some_iff.1 hi).1
      have HRC := Lib.hid (restC_next hil hns)
      have LV := Lib.hid (valL_mem (HL.out x u hmu))
      have LI := Lib.hid hit1
      have LU := Lib.hid hu
      have LB := Lib.hid (JB.out.grown hg1 JB.out.size (fun i hi => by injection hi with hi; omega))
      have LO := Lib.hid (JO.out.apart hg1 (.inr JN.out))
      have LM := Lib.hid (HM.out.below LB.out hfb)
      have hu0 : 1 ≤ u := by omega
      have hu9 : u ≤ 99 := by omega
      have hw1 : w.heap.size + 1 < w1.heap.size := by omega
      have hy9 : ys.length ≤ 1000 := by have := JC.out; have := H8.out; omega
      clear hi hns hit1 hg1 hs1 hu hmu heb JI JB JO
      by_cases heq : u + F x = F t
      · have HE := Lib.hid heq
        have hde : (u + F x == F t) = true := by simpa using heq
        clear heq
        go_wp2_with (first
          | (at_lookup; (refine wp_lookG _ rfl _ _ 91 _ rfl _ _ Tryz.underlying91 Tryz.underlying3 fb (valL l) rfl LM.out HKD.out x rfl _ LV.out ?_))
          | (at_lookup; (refine wp_lookG _ rfl _ _ 91 _ rfl _ _ Tryz.underlying91 Tryz.underlying3 fb (valL l) rfl LM.out HKD.out (t : Int) rfl _ HLT.out ?_))
          | (at_builtin; go_loud (refine wpList_push_at 1 8 3 encI encI_len encI_one (by omega) x _ _ rfl rfl _ _ _ rfl Tryz.underlying29 info_intN rfl w.heap.size _ ys rfl rfl (by simp) LO.out (by omega) (by unfold maxLen; omega) (by have := LB.out.size; omega) ?_); intro v' w' hown' hg' hl'; have HO' := Lib.hid hown'; have HB' := Lib.hid (below_grown LB.out hg' LO.out (Nat.le_refl _)); have HN' := Lib.hid (away_next JN.out hl' (by omega)); have HI' := Lib.hid (LI.out.grownR hg' JN.out); have HS' := Lib.hid hg'.size; clear hown' hg' hl'))
        go_roundg (restC (valL (nbr xs t)).length (seen ++ [i]))
        case measure => have := HRC.out; have := JK.out; omega
        case rel => exact ⟨⟨seen ++ [i], ys ++ [x], HI'.out, rfl, HO'.out, HN'.out, HB'.out, fun y => nxt_yes LU.out HE.out (JY.out y), by have := HRC.out; have := JK.out; have := JC.out; rw [List.length_append, List.length_singleton]; omega⟩, Nat.lt_of_lt_of_le hw1 HS'.out⟩
      · have HE := Lib.hid heq
        have hde : (u + F x == F t) = false := by simpa using heq
        clear heq
        go_wp2_with (first
          | (at_lookup; (refine wp_lookG _ rfl _ _ 91 _ rfl _ _ Tryz.underlying91 Tryz.underlying3 fb (valL l) rfl LM.out HKD.out x rfl _ LV.out ?_))
          | (at_lookup; (refine wp_lookG _ rfl _ _ 91 _ rfl _ _ Tryz.underlying91 Tryz.underlying3 fb (valL l) rfl LM.out HKD.out (t : Int) rfl _ HLT.out ?_)))
        go_roundg (restC (valL (nbr xs t)).length (seen ++ [i]))
        case measure => have := HRC.out; have := JK.out; omega
        case rel => exact ⟨⟨seen ++ [i], ys, LI.out, rfl, LO.out, JN.out, LB.out, fun y => nxt_no LU.out HE.out (JY.out y), by have := HRC.out; have := JK.out; have := JC.out; omega⟩, hw1⟩
end Go.Proofs.YtgjllminidlolaaGreatDoor
/- Contracts: RoadsWay of the program. -/
set_option linter.unusedVariables false
namespace Go.Proofs.YtgjllminidlolaaGreatDoor
open Go.RowKit Go.MapKept

theorem far_reach {n : Int} {xs : List T3} {c a v u : Int} (hq : FarQ n xs c a) (ha : ∃ d, Way xs c a d) (he : Edge xs a v u) : IsFar xs c a (farV n xs c a) ∧ IsFar xs c v (farV n xs c v) := by
  obtain ⟨d, hd⟩ := ha
  have hb := edge_bd hq.1 he
  exact ⟨(farV_way hq hd).1, (farV_way (n := n) (b := v) ⟨hq.1, hq.2.1, hb.2.2.1, hb.2.2.2.1⟩ (Way.on hd he)).1⟩
/-- The way goes on with the least of the towns. -/
theorem way_least {n : Int} {xs : List T3} (hok : RoadOk n xs) {c a v : Int} {l ys : List Int} (hc : 0 ≤ c ∧ c < n) (ha : 0 ≤ a ∧ a < n) (hr : ∃ d, Way xs c a d) (hy : ∀ y, y ∈ ys ↔ ∃ u, (y, u) ∈ nbr xs a ∧ u + farV n xs c y = farV n xs c a) (hs : ys.Pairwise (· ≤ ·)) (h0 : ys[0]? = some v) (hw : WayP xs c a l) (hne : a ≠ c) :
    ∃ l', l = a :: l' ∧ WayP xs c v l' ∧ (∃ d, Way xs c v d) ∧ 0 ≤ v ∧ v < n := by
  have hnext : ∀ y, y ∈ ys ↔ NextP xs c a y := fun y => by
    rw [hy y]
    constructor
    · rintro ⟨u, h1, h2⟩
      have he := nbr_edge h1
      have hf := far_reach (n := n) ⟨hok, hc, ha⟩ hr he
      refine ⟨u, _, he, hf.2, ?_⟩
      rw [show farV n xs c y + u = farV n xs c a by omega]
      exact hf.1
    · rintro ⟨u, dv, he, h1, h2⟩
      have hf := far_reach (n := n) ⟨hok, hc, ha⟩ hr he
      refine ⟨u, edge_nbr hok.2.2.2 he, ?_⟩
      have e1 := far_unique h1 hf.2
      have e2 := far_unique h2 hf.1
      omega
  have hfirst : FirstNext xs c a v := by
    refine ⟨(hnext v).1 (List.mem_of_getElem? h0), fun y hy' => ?_⟩
    have hm := (hnext y).2 hy'
    cases ys with
    | nil => cases h0
    | cons z zs =>
      obtain rfl : z = v := by simpa using h0
      rcases List.mem_cons.1 hm with rfl | hm
      · exact Int.le_refl _
      · exact List.rel_of_pairwise_cons hs hm
  cases hw with
  | here => exact absurd rfl hne
  | @on _ v' l' h1 h2 h3 =>
    obtain rfl := first_unique h2 hfirst
    obtain ⟨u, dv, he, h4, _⟩ := h2.1
    have hb := edge_bd hok he
    exact ⟨l', rfl, h3, ⟨dv, h4.1⟩, hb.2.2.1, hb.2.2.2.1⟩
theorem wayP_head {xs : List T3} {b a : Int} {l : List Int} (h : WayP xs b a l) : ∃ l', l = a :: l' := by
  cases h with
  | here => exact ⟨[], rfl⟩
  | on h1 h2 h3 => exact ⟨_, rfl⟩
theorem wayP_last {xs : List T3} {b : Int} {l : List Int} (h : WayP xs b b l) : l = [b] := by
  cases h with
  | here => rfl
  | on h1 h2 h3 => exact absurd rfl h1
/-- While the way is gone. -/
def WayI (n : Int) (xs : List T3) (c : Int) (full : List Int) (w : World) (B : Nat) (v : Value) (k : Nat) (at_ : Int) (W : World) : Prop :=
  ∃ (pre l : List Int), pre ++ at_ :: l = full ∧ WayP xs c at_ (at_ :: l) ∧ (∃ d, Way xs c at_ d) ∧ 0 ≤ at_ ∧ at_ < n ∧ OwnE 1 encI 3 B W v (pre ++ [at_]) ∧ Below w.heap.size w W ∧ k = l.length

set_option maxRecDepth 20000 in
set_option maxHeartbeats 6400000 in
theorem implRoadsWay_any (A : Option Addr) (n a c : Int) (len cap : Nat) (xs : List T3) (w : World) (h : SlE 3 enc3 w A len xs) (hn : len ≤ 16777216) :
    Calls Tryz.prog 24 #[.int .i64 n, .slice A len cap, .int .i64 a, .int .i64 c] w (RetOwnB 1 encI 3 (wayV n xs a c) (decide (0 ≤ farV n xs a c)) w) := by
  have H := Lib.hid h
  clear h
  by_cases hf : 0 ≤ farV n xs a c
  rotate_left
  · have HW := Lib.hid (wayV_no (n := n) (xs := xs) (a := a) (b := c) (by omega))
    have HD := Lib.hid (show decide (0 ≤ farV n xs a c) = false by simpa using hf)
    rw [HW.out, HD.out]
    have HR := Lib.hid (implRoadsFar_any A n a c len cap xs w H.out hn)
    generalize farV n xs a c = v at *
    have hv : v < 0 := by omega
    clear hf
    go_enter Tryz.func24, Tryz.ntmps24
    go_wp2_with fail
    refine HR.out.mono ?_
    rintro e w1 ⟨rfl, hb⟩
    have HB := Lib.hid hb
    clear hb
    go_wp2_with fail
    go_ret2
    exact ⟨_, rfl, own_new w1 _ _ HB.out.size encI_len [] #[] rfl (by simp) rfl, below_alloc HB.out _⟩
  have HD := Lib.hid (show decide (0 ≤ farV n xs a c) = true by simpa using hf)
  rw [HD.out]
  obtain ⟨hq, hfar⟩ := farV_far hf
  have hwp := wayV_yes hf
  have HQ := Lib.hid hq
  have HW := Lib.hid hwp
  have HS := Lib.hid (far_symm hfar)
  have HR := Lib.hid (implRoadsFar_any A n a c len cap xs w H.out hn)
  have HV8 := Lib.hid (wayV_len hf)
  have HFB := Lib.hid (fun v => farV_bd n xs c v)
  generalize wayV n xs a c = full at *
  generalize farV n xs a c = v at *
  have hv : ¬ v < 0 := by omega
  have hac := hq.2
  clear hq hfar hwp hf
  obtain ⟨a, rfl⟩ : ∃ k : Nat, a = k := ⟨a.toNat, by omega⟩
  obtain ⟨c, rfl⟩ : ∃ k : Nat, c = k := ⟨c.toNat, by omega⟩
  go_enter Tryz.func24, Tryz.ntmps24
  go_wp2_with fail
  refine HR.out.mono ?_
  rintro e w1 ⟨rfl, hb⟩
  have HB1 := Lib.hid hb
  clear hb HR
  go_wp2_with fail
  refine (mapRoads_any A n len cap xs w1 (H.out.below HB1.out) hn).mono ?_
  rintro e w2 ⟨hb, ⟨hok, m, bm, rfl, rfl, hbm, hg⟩ | ⟨hno, rfl⟩⟩
  rotate_left
  · exact absurd HQ.out.1 hno
  have HB2 := Lib.hid (below_trans HB1.out hb)
  have HG := Lib.hid hg
  have ham : a < m := by omega
  have hcm : c < m := by omega
  clear hb hok hg
  go_wp2_with fail
  refine (distances_any m bm c xs w2 HG.out HQ.out.1 hcm).mono ?_
  rintro e w3 ⟨fb, l, rfl, hm, hnd, hin, hno, -, hb3, hg3⟩
  have HM3 := Lib.hid hm
  have HN3 := Lib.hid hnd
  have HI3 := Lib.hid hin
  have HB3 := Lib.hid (below_trans HB2.out hb3)
  have HG3 := Lib.hid hg3
  have hsz := HB3.out.size
  clear hm hnd hin hno hb3 hg3 hac
  have HO3 := Lib.hid (own_new (enc := encI) (k := 1) w3 3 w3.heap.size (Nat.le_refl _) encI_len [(a : Int)] #[.int .i64 (a : Int)] rfl (by simp [maxLen]) rfl)
  have HB4 := Lib.hid (below_alloc HB3.out (.cells #[.int .i64 (a : Int)] 3))
  have HB34 := Lib.hid (below_alloc (Below.refl w3.heap.size w3) (.cells #[.int .i64 (a : Int)] 3))
  go_wp2_with fail
  go_loopg [13, 14] 8 (fun k s i wl => ∃ (k' t : Nat), i = .int .i64 t ∧ WayI m xs c full w w3.heap.size s k' t wl ∧ Below w3.heap.size w3 wl ∧ k' ≤ k ∧ k ≤ 8)
  case atStart =>
    obtain ⟨l0, hl0⟩ := wayP_head HW.out
    have hl8 := HV8.out.2
    rw [hl0, List.length_cons] at hl8
    refine ⟨l0.length, a, rfl, ⟨[], l0, by rw [hl0]; rfl, by rw [← hl0]; exact HW.out, ⟨_, HS.out.1⟩, by omega, by omega, HO3.out, HB4.out, rfl⟩, HB34.out, by omega, Nat.le_refl _⟩
  case round =>
    obtain ⟨k', t, rfl, ⟨pre, l', hpl, hwp, hr, ht0, htn, hown, hbl, hkl⟩, hb3l, hkk, hk8⟩ := hrel
    have JP := Lib.hid hpl
    have JW := Lib.hid hwp
    have JR := Lib.hid hr
    have JO := Lib.hid hown
    have JB := Lib.hid hbl
    have JK := Lib.hid hkl
    have J3 := Lib.hid hb3l
    have JL := Lib.hid hkk
    clear hpl hwp hr hown hbl hkl hb3l hkk HO3 HB4 HB34
    by_cases htc : t = c
    · subst htc
      have HE := Lib.hid (wayP_last JW.out)
      have d1 : ((t : Int) != (t : Int)) = false := by simp
      go_wp2_with fail
      go_ret2
      refine ⟨_, rfl, ?_, JB.out⟩
      have e1 := JP.out
      rw [HE.out] at e1
      rw [← e1]
      exact JO.out.base_le hsz
    · have d1 : ((t : Int) != (c : Int)) = true := by simp; omega
      have htm : t < m := by omega
      have hti : (t : Int) ≠ (c : Int) := by omega
      have HFR := Lib.hid (fun (v u : Int) (h : (v, u) ∈ nbr xs t) => far_reach (n := m) (c := (c : Int)) ⟨HQ.out.1, ⟨by omega, by omega⟩, ⟨by omega, by omega⟩⟩ JR.out (nbr_edge h))
      have HNX := Lib.hid (next_exists HQ.out.1 (b := (c : Int)) ⟨by omega, by omega⟩ (farV_way (n := m) ⟨HQ.out.1, ⟨by omega, by omega⟩, ⟨by omega, by omega⟩⟩ JR.out.choose_spec).1 hti)
      go_wp2_with fail
      refine (nexts_any m bm fb t xs l (fun v => farV m xs c v) wr (HG3.out.below J3.out) HQ.out.1 htm (HM3.out.below J3.out HM3.out.lt) HN3.out (fun v u h => (HI3.out _ _).2 (HFR.out v u h).2) ((HI3.out _ _).2 (farV_way (n := m) ⟨HQ.out.1, ⟨by omega, by omega⟩, ⟨by omega, by omega⟩⟩ JR.out.choose_spec).1)
        (fun v u h => ?_) ?_).mono ?_
      · have h1 := HFB.out v
        have h2 := HFR.out v u h
        have h3 := way_bd HQ.out.1 ⟨by omega, by omega⟩ h2.2.1
        exact ⟨h3.2.2.1, by omega⟩
      · obtain ⟨y, u, dv, he, h1, h2⟩ := HNX.out
        refine ⟨y, u, edge_nbr HQ.out.1.2.2.2 he, ?_⟩
        have hh := HFR.out y u (edge_nbr HQ.out.1.2.2.2 he)
        have e1 := far_unique h1 hh.2
        have e2 := far_unique h2 hh.1
        try dsimp only
        omega
      rintro e w5 ⟨v5, ys, rfl, ⟨hmem, hsort, hpos⟩, hown5, hb5⟩
      obtain ⟨q, hq⟩ : ∃ q, ys.length = q := ⟨_, rfl⟩
      obtain ⟨A5, c5, rfl, hs5, -⟩ := hown5.slc encI_len hq
      have hqp : 0 < q := by omega
      obtain ⟨bb, off, y0, rfl, hbl5, hy0, -, g0⟩ := at1 hs5 (Below.refl _ w5) hqp
      obtain ⟨l2, hl2, hw2, hr2, hy0a, hy0b⟩ := way_least HQ.out.1 (c := (c : Int)) (a := (t : Int)) ⟨by omega, by omega⟩ ⟨by omega, by omega⟩ JR.out hmem hsort hy0 JW.out hti
      obtain rfl : l' = l2 := by injection hl2
      obtain ⟨l3, rfl⟩ := wayP_head hw2
      obtain ⟨y0, rfl⟩ : ∃ i : Nat, y0 = i := ⟨y0.toNat, by omega⟩
      have LW := Lib.hid hw2
      have LR := Lib.hid hr2
      have LO := Lib.hid (JO.out.below hb5 (Nat.le_refl _))
      have LB := Lib.hid (below_trans JB.out hb5)
      have L3 := Lib.hid (below_trans J3.out hb5)
      have hpl8 : (pre ++ [(t : Int)]).length ≤ 100 := by
        have h1 := JP.out
        have h2 := HV8.out.2
        rw [← h1, List.length_append, List.length_cons] at h2
        rw [List.length_append, List.length_singleton]
        omega
      have LP := Lib.hid (show (pre ++ [(t : Int)]) ++ (y0 : Int) :: l3 = full by rw [List.append_assoc]; exact JP.out)
      have LK := Lib.hid (show l3.length + 1 ≤ gk by have := JK.out; have := JL.out; rw [List.length_cons] at *; omega)
      have hw3s : w3.heap.size ≤ w5.heap.size := L3.out.size
      rw [Nat.add_zero] at g0
      clear hmem hsort hpos hown5 hb5 hs5 hy0 hl2 hw2 hr2 JP JW JR JO JB JK J3 JL HFR HNX hq
      go_wp2_with (at_builtin; go_loud (refine wpList_push 1 8 3 encI encI_len encI_one (by omega) (y0 : Int) _ _ rfl rfl _ _ _ rfl Tryz.underlying29 info_intN rfl w3.heap.size _ (pre ++ [(t : Int)]) rfl rfl (by simp) LO.out (by omega) (by unfold maxLen; omega) (by omega) ?_); intro v' w' hown' hg'; have HO' := Lib.hid hown'; have HB' := Lib.hid (LB.out.grown hg' LB.out.size (fun j hj => Nat.le_trans hsz (LO.out.lt j hj).1)); have H3' := Lib.hid (L3.out.grown hg' L3.out.size (fun j hj => (LO.out.lt j hj).1)); clear hown' hg')
      go_roundg (gk - 1)
      case measure => have := LK.out; omega
      case rel => exact ⟨l3.length, y0, rfl, ⟨pre ++ [(t : Int)], l3, LP.out, LW.out, LR.out, hy0a, hy0b, HO'.out, HB'.out, rfl⟩, H3'.out, by have := LK.out; omega, by omega⟩
end Go.Proofs.YtgjllminidlolaaGreatDoor
/- Contracts: RoadsWay of the reference. -/
set_option linter.unusedVariables false
namespace Go.Proofs.YtgjllminidlolaaGreatDoor
open Go.RowKit Go.MapKept

/-! ### Where a road lies: nothing is turned -/
set_option maxRecDepth 20000 in
set_option maxHeartbeats 3200000 in
theorem l1Find_ltS (A : Option Addr) (a c : Int) (len cap : Nat) (xs : List T3) (w : World) (h : SlE 3 enc3 w A len xs) (hn : len ≤ 16777216) (hac : a < c) :
    Calls Tryz.prog 56 #[.slice A len cap, .int .i64 a, .int .i64 c] w (Same (.int .i64 (fndK xs a c 0)) w) := by
  have H := Lib.hid h
  have hxl := h.len
  have HL := Lib.hid hxl
  clear h hxl
  have hca : ¬ c < a := by omega
  go_enter Tryz.func56, Tryz.ntmps56
  go_wp2_with fail
  go_loopw [7] (fun i wr => ∃ k : Nat, k ≤ len ∧ i = .int .i64 k ∧ NoTwin xs k a c ∧ w = wr) (fun i _ => len - (intOf i).toNat)
  case atStart => exact ⟨0, by omega, rfl, twin_nil _ _ _, rfl⟩
  case round =>
    obtain ⟨k, hk, rfl, htw, rfl⟩ := hrel
    have hbr := Below.refl w.heap.size w
    have HT := Lib.hid htw
    have HR := Lib.hid hbr
    clear htw hbr
    by_cases hlt : k < len
    rotate_left
    · obtain rfl : k = len := by omega
      have hT := HT.out
      rw [← HL.out] at hT
      have HM := Lib.hid (fndK_miss hT)
      clear hT
      go_wp2_with fail
      go_ret
      exact ⟨ret_int HM.out.symm, rfl⟩
    obtain ⟨b, off, x, y, z, rfl, hbl, hx, hd, g0, g1, g2⟩ := at3 H.out HR.out hlt
    have HX := Lib.hid hx
    clear hd hx
    by_cases e1 : x = a
    · have d1 : (x == a) = true := by simpa using e1
      by_cases e2 : y = c
      · have d2 : (y == c) = true := by simpa using e2
        have HM := Lib.hid (fndK_hit HT.out HX.out ⟨e1, e2⟩)
        clear e1 e2
        go_wp2_with fail
        go_ret
        exact ⟨ret_int HM.out.symm, rfl⟩
      · have d2 : (y == c) = false := by simpa using e2
        have HTW := Lib.hid (twin_next HT.out HX.out (fun h => e2 h.2))
        clear e1 e2
        go_wp2_with fail
        go_roundw
        case rel => exact ⟨k + 1, by omega, by go_num, HTW.out, by first | rfl | trivial⟩
        case measure => simp [intOf]; omega
    · have d1 : (x == a) = false := by simpa using e1
      have HTW := Lib.hid (twin_next HT.out HX.out (fun h => e1 h.1))
      clear e1
      go_wp2_with fail
      go_roundw
      case rel => exact ⟨k + 1, by omega, by go_num, HTW.out, by first | rfl | trivial⟩
      case measure => simp [intOf]; omega
set_option maxRecDepth 20000 in
set_option maxHeartbeats 3200000 in
theorem l1Find_gtS (A : Option Addr) (a c : Int) (len cap : Nat) (xs : List T3) (w : World) (h : SlE 3 enc3 w A len xs) (hn : len ≤ 16777216) (hca : c < a) :
    Calls Tryz.prog 56 #[.slice A len cap, .int .i64 a, .int .i64 c] w (Same (.int .i64 (fndK xs c a 0)) w) := by
  have H := Lib.hid h
  have hxl := h.len
  have HL := Lib.hid hxl
  clear h hxl
  have hac : ¬ a < c := by omega
  go_enter Tryz.func56, Tryz.ntmps56
  go_wp2_with fail
  go_loopw [7] (fun i wr => ∃ k : Nat, k ≤ len ∧ i = .int .i64 k ∧ NoTwin xs k c a ∧ w = wr) (fun i _ => len - (intOf i).toNat)
  case atStart => exact ⟨0, by omega, rfl, twin_nil _ _ _, rfl⟩
  case round =>
    obtain ⟨k, hk, rfl, htw, rfl⟩ := hrel
    have hbr := Below.refl w.heap.size w
    have HT := Lib.hid htw
    have HR := Lib.hid hbr
    clear htw hbr
    by_cases hlt : k < len
    rotate_left
    · obtain rfl : k = len := by omega
      have hT := HT.out
      rw [← HL.out] at hT
      have HM := Lib.hid (fndK_miss hT)
      clear hT
      go_wp2_with fail
      go_ret
      exact ⟨ret_int HM.out.symm, rfl⟩
    obtain ⟨b, off, x, y, z, rfl, hbl, hx, hd, g0, g1, g2⟩ := at3 H.out HR.out hlt
    have HX := Lib.hid hx
    clear hd hx
    by_cases e1 : x = c
    · have d1 : (x == c) = true := by simpa using e1
      by_cases e2 : y = a
      · have d2 : (y == a) = true := by simpa using e2
        have HM := Lib.hid (fndK_hit HT.out HX.out ⟨e1, e2⟩)
        clear e1 e2
        go_wp2_with fail
        go_ret
        exact ⟨ret_int HM.out.symm, rfl⟩
      · have d2 : (y == a) = false := by simpa using e2
        have HTW := Lib.hid (twin_next HT.out HX.out (fun h => e2 h.2))
        clear e1 e2
        go_wp2_with fail
        go_roundw
        case rel => exact ⟨k + 1, by omega, by go_num, HTW.out, by first | rfl | trivial⟩
        case measure => simp [intOf]; omega
    · have d1 : (x == c) = false := by simpa using e1
      have HTW := Lib.hid (twin_next HT.out HX.out (fun h => e1 h.1))
      clear e1
      go_wp2_with fail
      go_roundw
      case rel => exact ⟨k + 1, by omega, by go_num, HTW.out, by first | rfl | trivial⟩
      case measure => simp [intOf]; omega
set_option maxRecDepth 20000 in
set_option maxHeartbeats 3200000 in
theorem l1Find_eqS (A : Option Addr) (a : Int) (len cap : Nat) (xs : List T3) (w : World) (h : SlE 3 enc3 w A len xs) (hn : len ≤ 16777216)  :
    Calls Tryz.prog 56 #[.slice A len cap, .int .i64 a, .int .i64 a] w (Same (.int .i64 (fndK xs a a 0)) w) := by
  have H := Lib.hid h
  have hxl := h.len
  have HL := Lib.hid hxl
  clear h hxl
  have hac : ¬ a < a := by omega
  go_enter Tryz.func56, Tryz.ntmps56
  go_wp2_with fail
  go_loopw [7] (fun i wr => ∃ k : Nat, k ≤ len ∧ i = .int .i64 k ∧ NoTwin xs k a a ∧ w = wr) (fun i _ => len - (intOf i).toNat)
  case atStart => exact ⟨0, by omega, rfl, twin_nil _ _ _, rfl⟩
  case round =>
    obtain ⟨k, hk, rfl, htw, rfl⟩ := hrel
    have hbr := Below.refl w.heap.size w
    have HT := Lib.hid htw
    have HR := Lib.hid hbr
    clear htw hbr
    by_cases hlt : k < len
    rotate_left
    · obtain rfl : k = len := by omega
      have hT := HT.out
      rw [← HL.out] at hT
      have HM := Lib.hid (fndK_miss hT)
      clear hT
      go_wp2_with fail
      go_ret
      exact ⟨ret_int HM.out.symm, rfl⟩
    obtain ⟨b, off, x, y, z, rfl, hbl, hx, hd, g0, g1, g2⟩ := at3 H.out HR.out hlt
    have HX := Lib.hid hx
    clear hd hx
    by_cases e1 : x = a
    · have d1 : (x == a) = true := by simpa using e1
      by_cases e2 : y = a
      · have d2 : (y == a) = true := by simpa using e2
        have HM := Lib.hid (fndK_hit HT.out HX.out ⟨e1, e2⟩)
        clear e1 e2
        go_wp2_with fail
        go_ret
        exact ⟨ret_int HM.out.symm, rfl⟩
      · have d2 : (y == a) = false := by simpa using e2
        have HTW := Lib.hid (twin_next HT.out HX.out (fun h => e2 h.2))
        clear e1 e2
        go_wp2_with fail
        go_roundw
        case rel => exact ⟨k + 1, by omega, by go_num, HTW.out, by first | rfl | trivial⟩
        case measure => simp [intOf]; omega
    · have d1 : (x == a) = false := by simpa using e1
      have HTW := Lib.hid (twin_next HT.out HX.out (fun h => e1 h.1))
      clear e1
      go_wp2_with fail
      go_roundw
      case rel => exact ⟨k + 1, by omega, by go_num, HTW.out, by first | rfl | trivial⟩
      case measure => simp [intOf]; omega
theorem l1Find_anyS (A : Option Addr) (a c : Int) (len cap : Nat) (xs : List T3) (w : World) (h : SlE 3 enc3 w A len xs) (hn : len ≤ 16777216) :
    Calls Tryz.prog 56 #[.slice A len cap, .int .i64 a, .int .i64 c] w (Same (.int .i64 (fndR xs a c)) w) := by
  unfold fndR
  rcases Int.lt_trichotomy a c with e | e | e
  · rw [Int.min_eq_left (by omega), Int.max_eq_right (by omega)]
    exact l1Find_ltS A a c len cap xs w h hn e
  · subst e
    rw [Int.min_self, Int.max_self]
    exact l1Find_eqS A a len cap xs w h hn
  · rw [Int.min_eq_right (by omega), Int.max_eq_left (by omega)]
    exact l1Find_gtS A a c len cap xs w h hn e

/-- What the table of the reference says about the next town. -/
theorem ref_next {n : Nat} {xs : List T3} (hok : RoadOk n xs) {c a v : Int} (hc : 0 ≤ c ∧ c < n) (hr : ∃ d, Way xs c a d) : NextP xs c a v ↔ v ≠ a ∧ ∃ (j : Nat) (p : T3), fndR xs a v = j ∧ xs[j]? = some p ∧ p.c + rounds xs c n v = rounds xs c n a := by
  have key : ∀ u, (∃ d, Way xs c u d) → IsFar xs c u (rounds xs c n u) := fun u ⟨d, hd⟩ => by
    have hb := way_bd hok hc hd
    obtain ⟨d0, h0⟩ := far_exists hok hc d.toNat u d hd (by omega)
    rw [((rounds_all hok hc u).1 d0 h0).1]
    exact h0
  constructor
  · rintro ⟨w, dv, he, h1, h2⟩
    have hb := edge_bd hok he
    refine ⟨fun e => hb.2.2.2.2.2.2 e.symm, ?_⟩
    rcases fndR_spec hok a v with ⟨_, h3⟩ | ⟨j, p, h3, h4, h5, _⟩
    · exact absurd he (h3 w)
    · have e1 := edge_unique hok he h5
      have e2 := far_unique h1 (key v ⟨_, h1.1⟩)
      have e3 := far_unique h2 (key a ⟨_, h2.1⟩)
      exact ⟨j, p, h3, h4, by omega⟩
  · rintro ⟨_, j, p, h3, h4, h5⟩
    rcases fndR_spec hok a v with ⟨h6, _⟩ | ⟨j', p', h6, h7, h8, _⟩
    · omega
    · obtain rfl : j = j' := by omega
      obtain rfl : p = p' := by rw [h4] at h7; exact Option.some.inj h7
      obtain ⟨d, hd⟩ := hr
      have e1 := key v ⟨_, Way.on hd h8⟩
      have e2 := key a ⟨d, hd⟩
      rw [← h5, Int.add_comm] at e2
      exact ⟨p.c, _, h8, e1, e2⟩
/-- The way goes on with the first town that fits. -/
theorem way_first {n : Int} {xs : List T3} (hok : RoadOk n xs) {c a v : Int} {l : List Int} (hv : FirstNext xs c a v) (hw : WayP xs c a l) (hne : a ≠ c) :
    ∃ l', l = a :: l' ∧ WayP xs c v l' ∧ (∃ d, Way xs c v d) ∧ 0 ≤ v ∧ v < n := by
  cases hw with
  | here => exact absurd rfl hne
  | @on _ v' l' h1 h2 h3 =>
    obtain rfl := first_unique h2 hv
    obtain ⟨u, dv, he, h4, _⟩ := h2.1
    have hb := edge_bd hok he
    exact ⟨l', rfl, h3, ⟨dv, h4.1⟩, hb.2.2.1, hb.2.2.2.1⟩
theorem findQ (A : Option Addr) (a c : Int) (len cap : Nat) (xs : List T3) (w : World) (h : SlE 3 enc3 w A len xs) (hn : len ≤ 16777216) (r : Int) (hr : fndR xs a c = r) (d : Nat) :
    Calls Tryz.prog 56 #[.slice A len cap, .int .i64 a, .int .i64 c] (w.drewN d) fun e w' => e = .returned (.int .i64 r) ∧ w' = w.drewN d :=
  (l1Find_anyS A a c len cap xs (w.drewN d) (h.below (bl_drewN (Below.refl _ _) d)) hn).mono fun _ _ hp => by rw [hr] at hp; exact ⟨hp.1, hp.2.symm⟩

set_option maxRecDepth 20000 in
set_option maxHeartbeats 6400000 in
theorem specRoadsWay_any (A : Option Addr) (n a c : Int) (len cap : Nat) (xs : List T3) (w : World) (h : SlE 3 enc3 w A len xs) (hn : len ≤ 16777216) (h1 : -1000000 ≤ n) (h2 : n ≤ 1000000) :
    Calls Tryz.prog 25 #[.int .i64 n, .slice A len cap, .int .i64 a, .int .i64 c] w (RetOwnB 1 encI 3 (wayV n xs a c) (decide (0 ≤ farV n xs a c)) w) := by
  have H := Lib.hid h
  clear h
  by_cases hf : 0 ≤ farV n xs a c
  rotate_left
  · have HW := Lib.hid (wayV_no (n := n) (xs := xs) (a := a) (b := c) (by omega))
    have HD := Lib.hid (show decide (0 ≤ farV n xs a c) = false by simpa using hf)
    rw [HW.out, HD.out]
    have HR := Lib.hid (specRoadsFar_any A n a c len cap xs w H.out hn h1 h2)
    generalize farV n xs a c = v at *
    have hv : v < 0 := by omega
    clear hf
    go_enter Tryz.func25, Tryz.ntmps25
    go_wp2_with fail
    refine HR.out.mono ?_
    rintro e w1 ⟨rfl, hb⟩
    have HB := Lib.hid hb
    clear hb
    go_wp2_with fail
    go_ret2
    exact ⟨_, rfl, own_new w1 _ _ HB.out.size encI_len [] #[] rfl (by simp) rfl, below_alloc HB.out _⟩
  have HD := Lib.hid (show decide (0 ≤ farV n xs a c) = true by simpa using hf)
  rw [HD.out]
  obtain ⟨hq, hfar⟩ := farV_far hf
  have hwp := wayV_yes hf
  have HQ := Lib.hid hq
  have HW := Lib.hid hwp
  have HS := Lib.hid (far_symm hfar)
  have HR := Lib.hid (specRoadsFar_any A n a c len cap xs w H.out hn h1 h2)
  have HV8 := Lib.hid (wayV_len hf)
  generalize wayV n xs a c = full at *
  generalize farV n xs a c = v at *
  have hv : ¬ v < 0 := by omega
  have hac := hq.2
  have hn8 := hq.1.2.1
  clear hq hfar hwp hf h1 h2
  obtain ⟨n, rfl⟩ : ∃ k : Nat, n = k := ⟨n.toNat, by omega⟩
  obtain ⟨a, rfl⟩ : ∃ k : Nat, a = k := ⟨a.toNat, by omega⟩
  obtain ⟨c, rfl⟩ : ∃ k : Nat, c = k := ⟨c.toNat, by omega⟩
  go_enter Tryz.func25, Tryz.ntmps25
  go_wp2_with fail
  refine HR.out.mono ?_
  rintro e w1 ⟨rfl, hb⟩
  have HB1 := Lib.hid hb
  clear hb HR
  go_wp2_with fail
  have hcn : c < n := by omega
  have han : a < n := by omega
  refine (l1Far_any A n c len cap xs w1 (H.out.below HB1.out) hn HQ.out.1 hcn).mono ?_
  rintro e w3 ⟨vt, rfl, htab, hb3⟩
  obtain ⟨A0, c0, rfl, -, hc0⟩ := htab.slc encI_len (tblL_len n _)
  obtain ⟨g, rfl, -, hg0, hg1, hfz⟩ := htab.form (by rw [tblL_len]; omega)
  have HTB := Lib.hid htab
  have HB3 := Lib.hid (below_trans HB1.out hb3)
  have hsz := HB3.out.size
  clear htab hb3 hac hfz
  have hsnd := fun t => snd_bdF (snd_rounds HQ.out.1 (c : Int) n) t
  generalize hF : rounds xs c n = F at *
  have HF := Lib.hid hF
  clear hF
  have HO3 := Lib.hid (own_new (enc := encI) (k := 1) w3 3 w3.heap.size (Nat.le_refl _) encI_len [(a : Int)] #[.int .i64 (a : Int)] rfl (by simp [maxLen]) rfl)
  have HB4 := Lib.hid (below_alloc HB3.out (.cells #[.int .i64 (a : Int)] 3))
  have HB34 := Lib.hid (below_alloc (Below.refl w3.heap.size w3) (.cells #[.int .i64 (a : Int)] 3))
  go_wp2_with fail
  go_loopg [2, 11, 12] 8 (fun k i s _ wl => ∃ (k' t : Nat), i = .int .i64 t ∧ WayI n xs c full w w3.heap.size s k' t wl ∧ Below w3.heap.size w3 wl ∧ k' ≤ k ∧ k ≤ 8)
  case atStart =>
    obtain ⟨l0, hl0⟩ := wayP_head HW.out
    have hl8 := HV8.out.2
    rw [hl0, List.length_cons] at hl8
    refine ⟨l0.length, a, rfl, ⟨[], l0, by rw [hl0]; rfl, by rw [← hl0]; exact HW.out, ⟨_, HS.out.1⟩, by omega, by omega, HO3.out, HB4.out, rfl⟩, HB34.out, by omega, Nat.le_refl _⟩
  case round =>
    obtain ⟨k', t, rfl, ⟨pre, l', hpl, hwp, hr, ht0, htn, hown, hbl, hkl⟩, hb3l, hkk, hk8⟩ := hrel
    have JP := Lib.hid hpl
    have JW := Lib.hid hwp
    have JR := Lib.hid hr
    have JO := Lib.hid hown
    have JB := Lib.hid hbl
    have JK := Lib.hid hkl
    have J3 := Lib.hid hb3l
    have JL := Lib.hid hkk
    clear hpl hwp hr hown hbl hkl hb3l hkk HO3 HB4 HB34
    by_cases htc : t = c
    · subst htc
      have HE := Lib.hid (wayP_last JW.out)
      have d1 : ((t : Int) != (t : Int)) = false := by simp
      go_wp2_with fail
      go_ret2
      refine ⟨_, rfl, ?_, JB.out⟩
      have e1 := JP.out
      rw [HE.out] at e1
      rw [← e1]
      exact JO.out.base_le hsz
    · have d1 : ((t : Int) != (c : Int)) = true := by simp; omega
      have hti : (t : Int) ≠ (c : Int) := by omega
      obtain ⟨vn, hvn⟩ := firstNext_exists HQ.out.1 (b := (c : Int)) ⟨by omega, by omega⟩ (farV_way (n := n) ⟨HQ.out.1, ⟨by omega, by omega⟩, ⟨by omega, by omega⟩⟩ JR.out.choose_spec).1 hti
      obtain ⟨l2, hl2, hw2, hr2, hy0a, hy0b⟩ := way_first HQ.out.1 hvn JW.out hti
      obtain rfl : l' = l2 := by injection hl2
      obtain ⟨l3, rfl⟩ := wayP_head hw2
      obtain ⟨vn, rfl⟩ : ∃ i : Nat, vn = i := ⟨vn.toNat, by omega⟩
      have LN := Lib.hid hvn
      have LW := Lib.hid hw2
      have LR := Lib.hid hr2
      have LT := Lib.hid (HTB.out.below J3.out (Nat.le_refl _))
      have htn' : t < n := by omega
      have hvn' : vn < n := by omega
      have NX := Lib.hid (fun v : Int => ref_next (n := n) HQ.out.1 (c := (c : Int)) (a := (t : Int)) (v := v) ⟨by omega, by omega⟩ JR.out)
      obtain ⟨W0, hW0⟩ : ∃ W0, W0 = wr := ⟨_, rfl⟩
      subst hW0
      clear hl2 hw2 hr2 hvn
      go_wp2_with fail
      go_loopw [12] (fun i wl => ∃ k : Nat, k ≤ vn ∧ i = .int .i64 k ∧ (∀ u : Nat, u < k → ¬ NextP xs c t u) ∧ Below W0.heap.size W0 wl) (fun i _ => vn - (intOf i).toNat)
      case atStart => exact ⟨0, by omega, rfl, fun u hu => by omega, Below.refl _ _⟩
      case round =>
        obtain ⟨k, hk, rfl, hno, hbk⟩ := hrel
        have KN := Lib.hid hno
        have KB := Lib.hid hbk
        have hk8 : k ≤ 8 := by omega
        have hkn : k < n := by omega
        have KR := Lib.hid (H.out.below (below_trans JB.out hbk))
        have KT := Lib.hid (LT.out.below hbk (by have := JB.out.size; have := J3.out.size; omega))
        have ck := OwnE.cell1 KT.out (j := k) (x := F k) (by rw [tblL_at _ hkn])
        have ct := OwnE.cell1 KT.out (j := t) (x := F t) (by rw [tblL_at _ htn'])
        have NK := Lib.hid (NX.out k)
        clear hno hbk
        obtain ⟨r, hr⟩ : ∃ r, fndR xs t k = r := ⟨_, rfl⟩
        have bk := (hsnd k)
        have bt := (hsnd t)
        generalize hfk : F k = fk at *
        generalize hft : F t = ft at *
        have HK := Lib.hid (And.intro hfk hft)
        have HQ1 := Lib.hid (fun W h d => findQ A t k len cap xs W h hn r hr d)
        clear hfk hft
        have GO := Lib.hid (fun (hx : ¬ NextP xs c t k) (u : Nat) (hu : u < k + 1) => show ¬ NextP xs c t u from if e : u = k then e ▸ hx else KN.out u (by omega))
        by_cases c1 : k = t
        · have d1 : ((k : Int) == (t : Int)) = true := by simp; omega
          have NN := Lib.hid (show ¬ NextP xs c t k by rw [NK.out, c1]; exact fun h => h.1 rfl)
          have hkv : k < vn := by
            rcases Nat.lt_or_ge k vn with h | h
            · exact h
            · obtain rfl : k = vn := by omega
              exact absurd LN.out.1 NN.out
          clear bk bt c1 hr
          go_wp2_with fail
          go_quiet (fail)
          have KBv := Lib.hid (bl_drewN KB.out nq)
          generalize wr.drewN nq = wv at *
          clear nq
          go_wp2_with fail
          go_roundw
          case rel => exact ⟨k + 1, by omega, by go_num, GO.out NN.out, KBv.out⟩
          case measure => simp [intOf]; omega
        have d1 : ((k : Int) == (t : Int)) = false := by simp; omega
        have hki : (k : Int) ≠ (t : Int) := by omega
        by_cases c2 : r < 0
        · have d2 : decide (r < 0) = true := by simpa using c2
          have NN := Lib.hid (show ¬ NextP xs c t k by rw [NK.out, hr]; rintro ⟨_, j, p, h3, _⟩; omega)
          have hkv : k < vn := by
            rcases Nat.lt_or_ge k vn with h | h
            · exact h
            · obtain rfl : k = vn := by omega
              exact absurd LN.out.1 NN.out
          clear bk bt c1 hki hr
          go_wp2_with fail
          go_quiet ((go_at_call 56; exact Calls.quiet_of_same (HQ1.out _ KR.out _)))
          have KBv := Lib.hid (bl_drewN KB.out nq)
          generalize wr.drewN nq = wv at *
          clear nq
          go_wp2_with fail
          go_roundw
          case rel => exact ⟨k + 1, by omega, by go_num, GO.out NN.out, KBv.out⟩
          case measure => simp [intOf]; omega
        have d2 : decide (r < 0) = false := by simpa using c2
        obtain ⟨j, p, hj, hpj⟩ : ∃ j p, fndR xs t k = (j : Nat) ∧ xs[j]? = some p := by
          rcases (fndR_bd xs t k).2 with h | h
          · omega
          · exact h
        obtain rfl : r = j := by omega
        have hjl : j < len := by rw [← H.out.len]; exact (List.getElem?_eq_some_iff.1 hpj).1
        obtain ⟨b, off, x, y, z, rfl, hblr, hx, hd, g0, g1, g2⟩ := at3 KR.out (Below.refl _ _) hjl
        obtain rfl : p = ⟨x, y, z⟩ := by rw [hpj] at hx; exact Option.some.inj hx
        have hob := HQ.out.1.2.2.2.1 _ (mem_at hpj)
        dsimp only at hob
        obtain ⟨s, hs⟩ : ∃ s, s = z + fk := ⟨_, rfl⟩
        have e1 : IntKind.i64.wrap (z + fk) = s := by rw [IntWalk.i64_in _ (by omega)]; exact hs.symm
        have NI := Lib.hid (show NextP xs c t k ↔ s = ft by
          rw [NK.out, hr, hs, HF.out, HK.out.1, HK.out.2]
          constructor
          · rintro ⟨_, j', p', h3, h4, h5⟩
            obtain rfl : j' = j := by omega
            rw [hpj] at h4
            obtain rfl := Option.some.inj h4
            exact h5
          · exact fun h => ⟨hki, j, _, rfl, hpj, h⟩)
        clear hx hd hob bk bt hs hr c1 hki c2 hpj hj
        by_cases c3 : s = ft
        · have d3 : (s != ft) = false := by simpa using c3
          have NN := Lib.hid (NI.out.2 c3)
          have HKV := Lib.hid (show k = vn by
            rcases Nat.lt_or_ge k vn with h | h
            · have := LN.out.2 _ NN.out
              omega
            · omega)
          clear c3
          go_wp2_with fail
          go_quiet ((go_at_call 56; exact Calls.quiet_of_same (HQ1.out _ KR.out _)))
          have KBv := Lib.hid (bl_drewN KB.out nq)
          generalize wr.drewN nq = wv at *
          clear nq
          have hkv := HKV.out
          clear HKV
          subst hkv
          have LO := Lib.hid (JO.out.below KBv.out (Nat.le_refl _))
          have LB := Lib.hid (below_trans JB.out KBv.out)
          have L3 := Lib.hid (below_trans J3.out KBv.out)
          have hpl8 : (pre ++ [(t : Int)]).length ≤ 100 := by
            have h1 := JP.out
            have h2 := HV8.out.2
            rw [← h1, List.length_append, List.length_cons] at h2
            rw [List.length_append, List.length_singleton]
            omega
          have LP := Lib.hid (show (pre ++ [(t : Int)]) ++ (k : Int) :: l3 = full by rw [List.append_assoc]; exact JP.out)
          have LK := Lib.hid (show l3.length + 1 ≤ gk by have := JK.out; have := JL.out; rw [List.length_cons] at *; omega)
          have hw3s : w3.heap.size ≤ wv.heap.size := L3.out.size
          clear JP JW JR JO JB JK J3 JL KB KT KR ck ct KBv HQ1 g0 g1 g2
          go_wp2_with (at_builtin; go_loud (refine wpList_push 1 8 3 encI encI_len encI_one (by omega) (k : Int) _ _ rfl rfl _ _ _ rfl Tryz.underlying29 info_intN rfl w3.heap.size _ (pre ++ [(t : Int)]) rfl rfl (by simp) LO.out (by omega) (by unfold maxLen; omega) (by omega) ?_); intro v' w' hown' hg'; have HO' := Lib.hid hown'; have HB' := Lib.hid (LB.out.grown hg' LB.out.size (fun j hj => Nat.le_trans hsz (LO.out.lt j hj).1)); have H3' := Lib.hid (L3.out.grown hg' L3.out.size (fun j hj => (LO.out.lt j hj).1)); clear hown' hg')
          go_roundg (gk - 1)
          case measure => have := LK.out; omega
          case rel => exact ⟨l3.length, k, rfl, ⟨pre ++ [(t : Int)], l3, LP.out, LW.out, LR.out, hy0a, hy0b, HO'.out, HB'.out, rfl⟩, H3'.out, by have := LK.out; omega, by omega⟩
        · have d3 : (s != ft) = true := by simpa using c3
          have NN := Lib.hid (fun h => c3 (NI.out.1 h))
          have hkv : k < vn := by
            rcases Nat.lt_or_ge k vn with h | h
            · exact h
            · obtain rfl : k = vn := by omega
              exact absurd LN.out.1 NN.out
          clear c3
          go_wp2_with fail
          go_quiet ((go_at_call 56; exact Calls.quiet_of_same (HQ1.out _ KR.out _)))
          have KBv := Lib.hid (bl_drewN KB.out nq)
          generalize wr.drewN nq = wv at *
          clear nq
          go_wp2_with fail
          go_roundw
          case rel => exact ⟨k + 1, by omega, by go_num, GO.out NN.out, KBv.out⟩
          case measure => simp [intOf]; omega
end Go.Proofs.YtgjllminidlolaaGreatDoor
/- Contracts: sameInts at equal lists of numbers. -/
set_option linter.unusedVariables false
namespace Go.Proofs.YtgjllminidlolaaGreatDoor
open Go.RowKit

set_option maxRecDepth 20000 in
set_option maxHeartbeats 1600000 in
theorem sameInts_yes (A B : Option Addr) (len c d : Nat) (xs : List Int) (w : World) (hA : SlE 1 encI w A len xs) (hB : SlE 1 encI w B len xs) (hn : len ≤ 1048576) :
    Calls Tryz.prog 18 #[.slice A len c, .slice B len d] w (Only (.bool true) w) := by
  have H := Lib.hid hA
  have H' := Lib.hid hB
  clear hA hB
  go_enter Tryz.func18, Tryz.ntmps18
  go_wp2_with fail
  go_loopw [5] (fun i wr => ∃ k : Nat, k ≤ len ∧ i = .int .i64 k ∧ Below w.heap.size w wr) (fun i _ => len - (intOf i).toNat)
  case atStart => exact ⟨0, by omega, rfl, Below.refl _ _⟩
  case round =>
    obtain ⟨k, hk, rfl, hbr⟩ := hrel
    have HR := Lib.hid hbr
    clear hbr
    by_cases hlt : k < len
    · obtain ⟨b1, o1, x, rfl, hl1, hx1, hd1, g0⟩ := at1 H.out HR.out hlt
      obtain ⟨b2, o2, x', rfl, hl2, hx2, hd2, k0⟩ := at1 H'.out HR.out hlt
      rw [hx1] at hx2
      injection hx2 with hx2
      subst hx2
      clear hx1 hd1 hd2
      go_wp2_with fail
      go_quiet (fail)
      have HRq := Lib.hid (show Below w.heap.size w (wr.drewN nq) from ⟨HR.out.os, HR.out.tape, HR.out.output, HR.out.size, HR.out.block⟩)
      go_wp2_with fail
      go_roundw
      case rel => exact ⟨k + 1, by omega, by go_num, HRq.out⟩
      case measure => simp [intOf]; omega
    · go_wp2_with fail
      go_ret
      exact ⟨rfl, HR.out⟩
end Go.Proofs.YtgjllminidlolaaGreatDoor
/- Contracts: the number of a word. -/
set_option linter.unusedVariables false
namespace Go.Proofs.YtgjllminidlolaaGreatDoor
open Go.RowKit

theorem numD_bd : ∀ (l : List UInt8) (a : Int), l.all isDig = true → 0 ≤ a → 0 ≤ numD l a ∧ numD l a ≤ (a + 1) * 10 ^ l.length - 1
  | [], a, _, h => by simp [numD]; omega
  | c :: l, a, h, h0 => by
    simp only [List.all_cons, Bool.and_eq_true] at h
    have hc : 48 ≤ c.toNat ∧ c.toNat ≤ 57 := by
      have := h.1
      simp only [isDig, Bool.and_eq_true, decide_eq_true_eq, UInt8.le_iff_toNat_le] at this
      exact this
    have ih := numD_bd l (a * 10 + ((c.toNat : Int) - 48)) h.2 (by omega)
    refine ⟨ih.1, Int.le_trans ih.2 ?_⟩
    rw [List.length_cons, Int.pow_succ]
    have h1 : (a * 10 + ((c.toNat : Int) - 48) + 1) * 10 ^ l.length ≤ (a * 10 + 10) * 10 ^ l.length := Int.mul_le_mul_of_nonneg_right (by omega) (Int.pow_nonneg (by omega))
    have h2 : (a * 10 + 10) * (10 : Int) ^ l.length = (a + 1) * (10 ^ l.length * 10) := by
      rw [show a * 10 + 10 = (a + 1) * 10 by omega, Int.mul_assoc, Int.mul_comm 10]
    omega
theorem below_bytes (w : World) (e : TypeId) (s : ByteArray) : Below w.heap.size w (Lib.bytesWorld w e s) :=
  ⟨rfl, rfl, rfl, by rw [Lib.bytesWorld_size]; omega, fun j hj => Lib.bytesWorld_at_old w e s j hj⟩
theorem take_at_next (l : List UInt8) (j : Nat) (c : UInt8) (h : l[j]? = some c) : l.take (j + 1) = l.take j ++ [c] := take_next h

set_option maxRecDepth 20000 in
set_option maxHeartbeats 1600000 in
theorem numberOf_any (s : ByteArray) (w : World) :
    Calls Tryz.prog 104 #[.string s] w (Only (.int .i64 (numL s.data.toList)) w) := by
  have hsz : s.size = s.data.toList.length := by simp
  by_cases hlen : 1 ≤ s.size ∧ s.size ≤ 5
  rotate_left
  · have HN := Lib.hid (show numL s.data.toList = 99999 by rw [numL, if_neg (fun h => hlen (by rw [hsz]; exact ⟨h.1, h.2.1⟩))])
    by_cases h1 : s.size < 1
    · have i1 : (s.size : Int) < 1 := by omega
      clear hlen hsz
      go_enter Tryz.func104, Tryz.ntmps104
      go_wp2_with fail
      go_ret
      exact ⟨by rw [HN.out]; rfl, Below.refl _ _⟩
    · have i1 : ¬ (s.size : Int) < 1 := by omega
      have i2 : 5 < (s.size : Int) := by omega
      clear hlen hsz h1
      go_enter Tryz.func104, Tryz.ntmps104
      go_wp2_with fail
      go_ret
      exact ⟨by rw [HN.out]; rfl, Below.refl _ _⟩
  obtain ⟨h1, h5⟩ := hlen
  have HSZ := Lib.hid hsz
  have hcv := fun W => Lib.run_convert_string_bytes (P := Tryz.prog) W 9 22 5 s Tryz.underlying9 Tryz.underlying22 Tryz.underlying5
  have HB := Lib.hid (below_bytes w 5 s)
  have HC := Lib.hid (fun j hj => Lib.bytesWorld_cell w 5 s j hj)
  clear hsz
  go_enter Tryz.func104, Tryz.ntmps104
  go_wp2_with fail
  generalize Lib.bytesWorld w 5 s = wb at *
  go_loop [3, 17, 5] (fun v i _ => ∃ j : Nat, j ≤ s.size ∧ i = .int .i64 j ∧ v = .int .i64 (numD (s.data.toList.take j) 0) ∧ (s.data.toList.take j).all isDig = true) (fun _ i _ => s.size - (intOf i).toNat)
  case atStart => exact ⟨0, by omega, rfl, rfl, rfl⟩
  case round =>
    obtain ⟨j, hj, rfl, rfl, hall⟩ := hrel
    have hbd := numD_bd _ 0 hall (by omega)
    have htl : (s.data.toList.take j).length ≤ j := List.length_take_le _ _
    have HA := Lib.hid hall
    clear hall
    by_cases hjs : j < s.size
    rotate_left
    · have e : j = s.size := by omega
      have HT := Lib.hid (show s.data.toList.take j = s.data.toList from List.take_of_length_le (by rw [← HSZ.out]; omega))
      have HV := Lib.hid (show numL s.data.toList = numD (s.data.toList.take j) 0 by
        rw [numL, if_pos ⟨by rw [← HSZ.out]; exact h1, by rw [← HSZ.out]; exact h5, by rw [← HT.out]; exact HA.out⟩, HT.out])
      clear e hbd htl
      generalize numD (s.data.toList.take j) 0 = nv at *
      go_wp2_with fail
      go_ret
      exact ⟨by rw [HV.out]; rfl, HB.out⟩
    have hp5 : (10 : Int) ^ (s.data.toList.take j).length ≤ 10000 := by
      have h : (s.data.toList.take j).length ≤ 4 := by omega
      rcases (by omega : (s.data.toList.take j).length = 0 ∨ (s.data.toList.take j).length = 1 ∨ (s.data.toList.take j).length = 2 ∨ (s.data.toList.take j).length = 3 ∨ (s.data.toList.take j).length = 4) with e | e | e | e | e <;> rw [e] <;> decide
    obtain ⟨n0, n1⟩ := hbd
    obtain ⟨c, hc⟩ : ∃ c, s.data.toList[j]? = some c := ⟨_, List.getElem?_eq_getElem (by rw [← HSZ.out]; exact hjs)⟩
    have hcell := HC.out j hjs
    rw [List.getD_eq_getElem?_getD, hc] at hcell
    simp only [Option.getD_some] at hcell
    have HX := Lib.hid hc
    have hcl := c.toNat_lt
    have n2 : numD (s.data.toList.take j) 0 ≤ 10000 := by omega
    have HN := Lib.hid (show numD (s.data.toList.take (j + 1)) 0 = numD (s.data.toList.take j) 0 * 10 + ((c.toNat : Int) - 48) by rw [take_at_next _ _ _ hc, numD_append]; rfl)
    have HD := Lib.hid (show (s.data.toList.take (j + 1)).all isDig = isDig c by rw [take_at_next _ _ _ hc, List.all_append, HA.out]; simp)
    have HF := Lib.hid (show isDig c = false → numL s.data.toList = 99999 from fun hd => by
      rw [numL, if_neg (fun h => by
        have := List.all_eq_true.1 h.2.2 c (List.mem_of_getElem? hc)
        rw [hd] at this
        cases this)])
    have HDG := Lib.hid (show isDig c = true ↔ 48 ≤ c.toNat ∧ c.toNat ≤ 57 by simp [isDig, UInt8.le_iff_toNat_le])
    clear hc hp5 htl n1
    generalize numD (s.data.toList.take j) 0 = nv at *
    generalize hcn : c.toNat = cn at *
    have i0 : (0 : Int) ≤ (cn : Int) := by omega
    have i1 : (cn : Int) ≤ 255 := by omega
    have i2 : (0 : Int) ≤ (j : Int) := by omega
    clear hcl hcn
    by_cases hd : 48 ≤ cn ∧ cn ≤ 57
    · obtain ⟨d0, d1⟩ := hd
      have d2 : (48 : Int) ≤ (cn : Int) := by omega
      have d3 : (cn : Int) ≤ 57 := by omega
      go_wp2_with fail
      go_round
      case rel => exact ⟨j + 1, by omega, by go_num, by rw [HN.out], by rw [HD.out]; exact HDG.out.2 ⟨d0, d1⟩⟩
      case measure => simp [intOf]; omega
    · have HV := Lib.hid (HF.out (by cases hx : isDig c with | false => rfl | true => exact absurd (HDG.out.1 hx) hd))
      rcases (by omega : cn < 48 ∨ 57 < cn) with e | e
      all_goals
        have e' := e
        clear hd e
        go_wp2_with fail
        go_ret
        exact ⟨by rw [HV.out]; rfl, HB.out⟩
end Go.Proofs.YtgjllminidlolaaGreatDoor
/- A map of strings that a call makes: an entry laid, a look-up. -/
set_option linter.unusedVariables false
namespace Go.Proofs.YtgjllminidlolaaGreatDoor
open Go.MapKept

section
variable {P : Program} {mty kt et : TypeId}
theorem set_alloc (w : World) (o o' : Obj) : ({ (w.alloc o) with heap := (w.alloc o).heap.setIfInBounds w.heap.size o' } : World) = w.alloc o' := by
  have e : (w.alloc o).heap.setIfInBounds w.heap.size o' = (w.alloc o').heap := by
    show (w.heap.push o).setIfInBounds w.heap.size o' = w.heap.push o'
    apply Array.ext_getElem?
    intro i
    rw [Array.getElem?_setIfInBounds]
    by_cases h : w.heap.size = i
    · subst h; simp
    · rw [if_neg h]
      rcases Nat.lt_or_ge i w.heap.size with h1 | h1
      · rw [Array.getElem?_push_lt h1, Array.getElem?_push_lt h1]
      · rw [Array.getElem?_eq_none (by simp; omega), Array.getElem?_eq_none (by simp; omega)]
  rw [e]
  rfl
/-- One entry more. -/
theorem run_update_new (hm : P.underlying mty = some (.map kt et)) (hd : P.underlying kt = some .string) (w : World) (es : Array MapEntry) (clock : Nat) (s : ByteArray) (v : Value)
    (hk : ∀ x ∈ es.toList, IsKey .string x.key) (hn : ∀ x ∈ es.toList, x.key ≠ .string s) :
    (Instr.mapUpdate mty (.map (some w.heap.size)) (.string s) v).run P (w.alloc (.map es clock)) = .ok () (w.alloc (.map (es.push { key := .string s, val := v, born := clock }) (clock + 1))) := by
  have hb : (w.alloc (.map es clock)).heap[w.heap.size]? = some (.map es clock) := (heap_alloc w _).1
  have hks : IsKey .string (.string s) := trivial
  have hf : Instr.findNow .string (.string s) es.toList 0 = some none := by
    rcases findNow_spec (d := .string) hks es.toList 0 hk with ⟨h, _⟩ | ⟨j, e, _, h2, h3⟩
    · exact h
    · exact absurd h3 (hn e (List.mem_of_getElem? h2))
  simp [Instr.mapUpdate, run_underlying hm, Go.MapKept.run_getObj_map hb, Go.MapKept.run_checkKey hd hks, Go.MapKept.run_findKey hd hf, Go.MapKept.run_setObj_map _ hb, Result.andThen]
  exact set_alloc w _ _
/-- A look-up of what is there. -/
theorem run_look_hit (hm : P.underlying mty = some (.map kt et)) (hd : P.underlying kt = some .string) (w : World) (r : Nat) (es : Array MapEntry) (clock : Nat) (hb : w.heap[r]? = some (.map es clock)) (s : ByteArray) (i : Nat) (v : Value)
    (hf : Instr.findNow .string (.string s) es.toList 0 = some (some (i, v))) :
    (Instr.lookup mty (.map (some r)) (.string s) true).run P w = .ok (.tuple #[v, .bool true]) w := by
  have hks : IsKey .string (.string s) := trivial
  simp [Instr.lookup, run_underlying hm, Go.MapKept.run_getObj_map hb, Go.MapKept.run_checkKey hd hks, Go.MapKept.run_findKey hd hf, Result.andThen]
/-- A look-up of what is not there. -/
theorem run_look_miss (hm : P.underlying mty = some (.map kt et)) (hd : P.underlying kt = some .string) (w : World) (r : Nat) (es : Array MapEntry) (clock : Nat) (hb : w.heap[r]? = some (.map es clock)) (s : ByteArray) (z : Value)
    (hf : Instr.findNow .string (.string s) es.toList 0 = some none) (hz : (zeroValue et).run P w = .ok z w) :
    (Instr.lookup mty (.map (some r)) (.string s) true).run P w = .ok (.tuple #[z, .bool false]) w := by
  have hks : IsKey .string (.string s) := trivial
  simp [Instr.lookup, run_underlying hm, Go.MapKept.run_getObj_map hb, Go.MapKept.run_checkKey hd hks, Go.MapKept.run_findKey hd hf, hz, Result.andThen]
end
theorem findNow_cons_hit (s : ByteArray) (v : Value) (b : Nat) (es : List MapEntry) (i : Nat) : Instr.findNow .string (.string s) ({ key := .string s, val := v, born := b } :: es) i = some (some (i, v)) := by
  simp [Instr.findNow, Instr.sameNow, (bytes_beq s s).2 rfl]
theorem findNow_cons_miss (s t : ByteArray) (v : Value) (b : Nat) (es : List MapEntry) (i : Nat) (h : s ≠ t) : Instr.findNow .string (.string s) ({ key := .string t, val := v, born := b } :: es) i = Instr.findNow .string (.string s) es (i + 1) := by
  have e : (s == t) = false := by
    cases hb : (s == t) with
    | false => rfl
    | true => exact absurd ((bytes_beq s t).1 hb) h
  simp [Instr.findNow, Instr.sameNow, e]
end Go.Proofs.YtgjllminidlolaaGreatDoor
