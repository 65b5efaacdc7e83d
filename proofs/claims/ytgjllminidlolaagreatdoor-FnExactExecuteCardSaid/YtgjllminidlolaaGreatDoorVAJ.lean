/- Texts of mine in one: SortI RWalkM RWalkN RWalkO. -/
import Derived.Test.YtgjllminidlolaaGreatDoorVAH
import Derived.Test.YtgjllminidlolaaGreatDoorVAI
import Derived.RegionTactic
import Derived.ChangeAlike
import Derived.Test.YtgjllminidlolaaGreatDoorVAD
import Derived.BigQuiet
/- Contracts: slices.Sort of at most twelve integers. -/
set_option linter.unusedVariables false
namespace Go.Proofs.YtgjllminidlolaaGreatDoor
open Go.RowKit

set_option maxRecDepth 20000 in
set_option maxHeartbeats 800000 in
theorem lessI_any (x y : Int) (w : World) : Calls Tryz.prog 160 #[.int .i64 x, .int .i64 y] w (SameB (x < y) w) := by
  have hn : ∀ z W, Calls Tryz.prog 196 #[.int .i64 z] W (Same (.bool false) W) := by
    intro z W
    go_enter Tryz.func196, Tryz.ntmps196
    go_wp2
    go_ret
    exact ⟨rfl, rfl⟩
  have HN := Lib.hid hn
  clear hn
  go_enter Tryz.func160, Tryz.ntmps160
  go_wp2_with (go_at_call 196; refine (HN.out _ _).mono ?_; rintro e w2 ⟨rfl, rfl⟩)
  all_goals
    go_ret
    exact ⟨_, rfl, by simp, rfl⟩
theorem lessQ_yes (x y : Int) (w : World) (h : x < y) (d : Nat) : Calls Tryz.prog 160 #[.int .i64 x, .int .i64 y] (w.drewN d) fun e w' => e = .returned (.bool true) ∧ w' = w.drewN d :=
  (lessI_any x y (w.drewN d)).mono fun _ _ hp => by obtain ⟨a, b⟩ := hp.yes h; exact ⟨a, b.symm⟩
theorem lessQ_no (x y : Int) (w : World) (h : ¬ x < y) (d : Nat) : Calls Tryz.prog 160 #[.int .i64 x, .int .i64 y] (w.drewN d) fun e w' => e = .returned (.bool false) ∧ w' = w.drewN d :=
  (lessI_any x y (w.drewN d)).mono fun _ _ hp => by obtain ⟨a, b⟩ := hp.no h; exact ⟨a, b.symm⟩
theorem grown_drewN {w w' : World} {row : Option Nat} (h : w.grownBy w' row) (n : Nat) : w.grownBy (w'.drewN n) row := ⟨h.os, h.tape, h.output, h.size, h.block⟩
theorem grown_drew {w w' : World} {row : Option Nat} (h : w.grownBy w' row) : w.grownBy w'.drew row := ⟨h.os, h.tape, h.output, h.size, h.block⟩

/-- How a sort in place ends. -/
def Sorts (base g n c : Nat) (ys : List Int) (w : World) (e : Ending) (w' : World) : Prop :=
  e = .returned (.tuple #[]) ∧ OwnE 1 encI 3 base w' (.slice (some ⟨g, 0, none⟩) n c) ys ∧ w.grownBy w' (some g)

set_option maxRecDepth 20000 in
set_option maxHeartbeats 3200000 in
theorem insSortI_any (base g n c : Nat) (l : List Int) (w : World) (h : OwnE 1 encI 3 base w (.slice (some ⟨g, 0, none⟩) n c) l) (hl : l.length = n) (hn : n ≤ 16777216) :
    Calls Tryz.prog 154 #[.slice (some ⟨g, 0, none⟩) n c, .int .i64 0, .int .i64 n] w (Sorts base g n c (isort ltI l) w) := by
  have H := Lib.hid h
  have HL := Lib.hid hl
  have HG := Lib.hid (h.lt g rfl)
  clear h hl
  go_enter Tryz.func154, Tryz.ntmps154
  go_wp2_with fail
  go_loopw [6, 7] (fun i _ wr => ∃ k : Nat, 1 ≤ k ∧ k ≤ n + 1 ∧ i = .int .i64 k ∧ OwnE 1 encI 3 base wr (.slice (some ⟨g, 0, none⟩) n c) ((sortR ltI (l.take k)).reverse ++ l.drop k) ∧ w.grownBy wr (some g)) (fun i _ _ => n + 1 - (intOf i).toNat)
  case atStart => exact ⟨1, Nat.le_refl _, by omega, rfl, by rw [sortR_one]; exact H.out, World.grownBy.refl _ _⟩
  case round =>
    obtain ⟨i, hi1, hin, rfl, hown, hgr⟩ := hrel
    have HO := Lib.hid hown
    have HR := Lib.hid hgr
    clear hown hgr
    by_cases hlt : i < n
    · obtain ⟨x, hx⟩ : ∃ x, l[i]? = some x := ⟨_, List.getElem?_eq_getElem (by rw [HL.out]; exact hlt)⟩
      have HI0 := Lib.hid (ins_start (less := ltI) hx)
      have HX := Lib.hid hx
      clear hx
      go_wp2_with fail
      go_loopw [7] (fun j wz => ∃ (k : Nat) (cur : List Int), j = .int .i64 k ∧ Ins ltI l i k x cur ∧ OwnE 1 encI 3 base wz (.slice (some ⟨g, 0, none⟩) n c) cur ∧ w.grownBy wz (some g)) (fun j _ => (intOf j).toNat)
      case atStart => exact ⟨i, _, rfl, HI0.out, HO.out, HR.out⟩
      case round =>
        obtain ⟨k, cur, rfl, hins, hcur, hgz⟩ := hrel
        have hkl := insL_len hins (by rw [HL.out]; exact hlt)
        have hki : k ≤ i := hkl.2
        have hcl : cur.length = n := by rw [hkl.1, HL.out]
        have HCL := Lib.hid hcl
        have HIN := Lib.hid hins
        have HC := Lib.hid hcur
        have HZ := Lib.hid hgz
        have c0 := hcur.cell1 (ins_at hins)
        have f0 := hcur.frozen
        clear hkl hcl hins hcur hgz
        by_cases hk0 : k = 0
        · subst hk0
          have HE := Lib.hid (ins_zero HIN.out)
          have hd : decide ((0 : Int) < 0) = false := rfl
          go_wp2_with fail
          go_quiet (fail)
          go_wp2
          go_roundw
          case rel => exact ⟨i + 1, by omega, by omega, by go_num, by rw [← HE.out]; exact HC.out, grown_drewN HZ.out _⟩
          case measure => simp [intOf]; omega
        · obtain ⟨k, rfl⟩ : ∃ k', k = k' + 1 := ⟨k - 1, by omega⟩
          obtain ⟨y, hy, hly, hln⟩ := ins_prev HIN.out
          have c1 := HC.out.cell1 hy
          have x1 : IntKind.i64.wrap ((k : Int) + 1 - 1) = (k : Int) := by rw [IntWalk.i64_in _ (by omega)]; omega
          have x2 : (0 : Int) < (k : Int) + 1 := by omega
          have x3 : (0 : Int) ≤ (k : Int) + 1 := by omega
          have x4 : (k : Int) + 1 < (n : Int) := by omega
          have x5 : ((k : Int) + 1).toNat = k + 1 := by omega
          have x6 : (0 : Int) ≤ (k : Int) := by omega
          have x7 : (k : Int) < (n : Int) := by omega
          have HLY := Lib.hid hly
          have HLN := Lib.hid hln
          clear hy hly hln
          by_cases hxy : x < y
          · have HQ := Lib.hid (fun W d => lessQ_yes x y W hxy d)
            have HN := Lib.hid (HLY.out (by simpa [ltI] using hxy))
            clear hxy
            go_wp2_with fail
            go_quiet ((go_at_call 160; exact Calls.quiet_of_same (HQ.out _ _)))
            have HCv : Hid (OwnE 1 encI 3 base (wr.drewN nq) (.slice (some ⟨g, 0, none⟩) n c) cur) := HC.out
            have HZv := Lib.hid (grown_drewN HZ.out nq)
            have d0 : (wr.drewN nq).cell? ⟨g, k + 1, none⟩ = some (.int .i64 x) := c0
            have d1 : (wr.drewN nq).cell? ⟨g, k, none⟩ = some (.int .i64 y) := c1
            have e0 : ∀ j, (wr.drewN nq).frozen? ⟨g, j, none⟩ = false := f0
            clear HC HZ c0 c1 f0
            generalize wr.drewN nq = wv at *
            clear nq
            go_wp2_with fail
            go_region
            go_wp2
            go_roundw
            case rel =>
              have s1 := own1_set HCv.out HCL.out (k + 1) y
              have s2 := own1_set s1.1 (by rw [List.length_set]; exact HCL.out) k x
              exact ⟨k, _, by go_num, HN.out, s2.1.drew, grown_drew (grown_trans (grown_trans HZv.out s1.2) s2.2)⟩
            case measure => simp [intOf]
          · have HQ := Lib.hid (fun W d => lessQ_no x y W hxy d)
            have HE := Lib.hid (HLN.out (by simpa [ltI] using hxy))
            clear hxy
            go_wp2_with fail
            go_quiet ((go_at_call 160; exact Calls.quiet_of_same (HQ.out _ _)))
            go_wp2
            go_roundw
            case rel => exact ⟨i + 1, by omega, by omega, by go_num, by rw [← HE.out]; exact HC.out, grown_drewN HZ.out _⟩
            case measure => simp [intOf]; omega
    · have e1 : l.take i = l := List.take_of_length_le (by rw [HL.out]; omega)
      have e2 : l.drop i = [] := List.drop_eq_nil_of_le (by rw [HL.out]; omega)
      rw [e1, e2, List.append_nil] at HO
      clear e1 e2
      go_wp2
      go_end0
      exact ⟨rfl, HO.out, HR.out⟩

set_option maxRecDepth 20000 in
set_option maxHeartbeats 800000 in
theorem pdqI_any (base g n c : Nat) (l : List Int) (lim : Int) (w : World) (h : OwnE 1 encI 3 base w (.slice (some ⟨g, 0, none⟩) n c) l) (hl : l.length = n) (hn : n ≤ 12) :
    Calls Tryz.prog 119 #[.slice (some ⟨g, 0, none⟩) n c, .int .i64 0, .int .i64 n, .int .i64 lim] w (Sorts base g n c (isort ltI l) w) := by
  have HI := Lib.hid (insSortI_any base g n c l w h hl (by omega))
  have h12 : (n : Int) ≤ 12 := by omega
  clear h hl
  go_enter Tryz.func119, Tryz.ntmps119
  go_wp2_with fail
  go_loopw [1, 2, 3] (fun a b d wr => a = .int .i64 0 ∧ b = .int .i64 n ∧ d = .int .i64 lim ∧ w = wr) (fun _ _ _ _ => 0)
  case atStart => exact ⟨rfl, rfl, rfl, rfl⟩
  case round =>
    obtain ⟨rfl, rfl, rfl, rfl⟩ := hrel
    go_wp2_with (go_at_call 154; refine HI.out.mono ?_; rintro e w2 ⟨rfl, ho, hg⟩; have HO := Lib.hid ho; have HGR := Lib.hid hg; clear ho hg)
    go_end0
    exact ⟨rfl, HO.out, HGR.out⟩
set_option maxRecDepth 20000 in
set_option maxHeartbeats 3200000 in
theorem bitsLen64_any (n : Nat) (w : World) (hn : n ≤ 12) : Calls Tryz.prog 164 #[.int .u64 n] w fun e w' => ∃ r : Int, e = .returned (.int .i64 r) ∧ w = w' := by
  rcases (by omega : n = 0 ∨ n = 1 ∨ n = 2 ∨ n = 3 ∨ n = 4 ∨ n = 5 ∨ n = 6 ∨ n = 7 ∨ n = 8 ∨ n = 9 ∨ n = 10 ∨ n = 11 ∨ n = 12) with rfl | rfl | rfl | rfl | rfl | rfl | rfl | rfl | rfl | rfl | rfl | rfl | rfl
  all_goals
    go_enter Tryz.func164, Tryz.ntmps164
    go_wp2
    go_ret
    exact ⟨_, rfl, rfl⟩
/-- It returns a number; the world is as it was. -/
def SomeNum (w : World) (e : Ending) (w' : World) : Prop := ∃ r : Int, e = .returned (.int .i64 r) ∧ w = w'
set_option maxRecDepth 20000 in
set_option maxHeartbeats 800000 in
theorem bitsLen_any (n : Nat) (w : World) (hn : n ≤ 12) : Calls Tryz.prog 120 #[.int .u64 n] w (SomeNum w) := by
  have HB := Lib.hid (bitsLen64_any n w hn)
  go_enter Tryz.func120, Tryz.ntmps120
  go_wp2_with (go_at_call 164; refine HB.out.mono ?_; rintro e w2 ⟨r, rfl, rfl⟩)
  go_ret
  exact ⟨_, rfl, rfl⟩
set_option maxRecDepth 20000 in
set_option maxHeartbeats 3200000 in
theorem sortI_any (base g n c : Nat) (l : List Int) (w : World) (h : OwnE 1 encI 3 base w (.slice (some ⟨g, 0, none⟩) n c) l) (hl : l.length = n) (hn : n ≤ 12) :
    Calls Tryz.prog 92 #[.slice (some ⟨g, 0, none⟩) n c] w (Sorts base g n c (isort ltI l) w) := by
  have HP := Lib.hid (fun lim => pdqI_any base g n c l lim w h hl hn)
  have h12 : (n : Int) ≤ 12 := by omega
  clear h hl
  go_enter Tryz.func92, Tryz.ntmps92
  go_wp2_with fail
  refine (bitsLen_any n w hn).mono ?_
  rintro e w2 ⟨r, rfl, rfl⟩
  go_wp2_with fail
  refine (HP.out r).mono ?_
  rintro e w2 ⟨rfl, ho, hg⟩
  have HO := Lib.hid ho
  have HGR := Lib.hid hg
  clear ho hg
  go_wp2
  go_end0
  exact ⟨rfl, HO.out, HGR.out⟩
end Go.Proofs.YtgjllminidlolaaGreatDoor
/- Contracts: roads of the program: where a shortest way goes on. -/
set_option linter.unusedVariables false
namespace Go.Proofs.YtgjllminidlolaaGreatDoor
open Go.RowKit Go.MapKept

/-- The towns with which a shortest way goes on. -/
def nxtL (xs : List T3) (F : Int → Int) (a : Int) : List Int := ((nbr xs a).filter fun p => decide (p.2 + F p.1 = F a)).map (·.1)
/-- How nexts ends. -/
def NextsRet (w : World) (P : List Int → Prop) (e : Ending) (w' : World) : Prop :=
  ∃ v ys, e = .returned v ∧ P ys ∧ OwnE 1 encI 3 w.heap.size w' v ys ∧ Below w.heap.size w w'
/-- While the towns are gone through. -/
def NxI (bm r t : Nat) (xs : List T3) (F : Int → Int) (w : World) (s : Value) (k : Nat) (W : World) : Prop :=
  ∃ (seen : List Nat) (ys : List Int), IterG W r (bm + 1 + t) (valL (nbr xs t)).length seen ∧ k = restC (valL (nbr xs t)).length seen ∧ OwnE 1 encI 3 w.heap.size W s ys ∧ s.ownBlock ≠ some r ∧ Below w.heap.size w W ∧
    (∀ y, y ∈ ys ↔ ∃ i u, i ∈ seen ∧ (nbr xs t)[i]? = some (y, u) ∧ u + F y = F t) ∧ ys.length + k ≤ (valL (nbr xs t)).length
theorem nodup_bd : ∀ (n : Nat) (l : List Int), l.Nodup → (∀ x ∈ l, 0 ≤ x ∧ x < n) → l.length ≤ n
  | 0, l, _, h => by
    cases l with
    | nil => simp
    | cons x l => have := h x (List.mem_cons_self ..); omega
  | n + 1, l, hn, h => by
    by_cases hm : (n : Int) ∈ l
    · have h1 := nodup_bd n (l.erase (n : Int)) (hn.erase _) (fun x hx => by
        have h2 := (hn.mem_erase_iff).1 hx
        have h3 := h x h2.2
        have h4 := h2.1
        omega)
      rw [List.length_erase_of_mem hm] at h1
      omega
    · have h1 := nodup_bd n l hn (fun x hx => by
        have h3 := h x hx
        have h4 : x ≠ (n : Int) := fun e => hm (e ▸ hx)
        omega)
      omega
theorem nbr_len8 {n : Nat} {xs : List T3} (hok : RoadOk n xs) (t : Int) : (nbr xs t).length ≤ n := by
  have h1 := nbr_keysT (n := n) (xs := xs) (j := xs.length) (by rw [List.take_length]; exact hok.2.2.2) t
  rw [List.take_length] at h1
  have h2 := nodup_bd n _ h1 (fun x hx => by
    obtain ⟨⟨v, w⟩, hv, rfl⟩ := List.mem_map.1 hx
    have := edge_bd hok (nbr_edge hv)
    exact ⟨this.2.2.1, this.2.2.2.1⟩)
  rw [List.length_map] at h2
  exact h2
theorem IterG.grownR {w w' : World} {r b n : Nat} {seen : List Nat} {row : Option Nat} (h : IterG w r b n seen) (hg : w.grownBy w' row) (hr : row ≠ some r) : IterG w' r b n seen := by
  have hl := h.lt
  obtain ⟨c0, h1, h2⟩ := h
  exact ⟨c0, h1, (hg.block r hl (fun e => hr e.symm)).trans h2⟩

theorem nxt_yes {l : List (Int × Int)} {F : Int → Int} {c : Int} {seen : List Nat} {ys : List Int} {i : Nat} {x u y : Int} (hu : l[i]? = some (x, u)) (he : u + F x = c) (h : y ∈ ys ↔ ∃ i u, i ∈ seen ∧ l[i]? = some (y, u) ∧ u + F y = c) :
    y ∈ ys ++ [x] ↔ ∃ i' u, i' ∈ seen ++ [i] ∧ l[i']? = some (y, u) ∧ u + F y = c := by
  rw [List.mem_append, h, List.mem_singleton]
  constructor
  · rintro (⟨i', u', h1, h2⟩ | rfl)
    · exact ⟨i', u', List.mem_append.2 (.inl h1), h2⟩
    · exact ⟨i, u, List.mem_append.2 (.inr (List.mem_singleton.2 rfl)), hu, he⟩
  · rintro ⟨i', u', h1, h2, h3⟩
    rcases List.mem_append.1 h1 with h1 | h1
    · exact .inl ⟨i', u', h1, h2, h3⟩
    · rw [List.mem_singleton] at h1
      subst h1
      rw [hu] at h2
      injection h2 with h2
      injection h2 with h2 _
      exact .inr h2.symm
theorem nxt_no {l : List (Int × Int)} {F : Int → Int} {c : Int} {seen : List Nat} {ys : List Int} {i : Nat} {x u y : Int} (hu : l[i]? = some (x, u)) (he : ¬ u + F x = c) (h : y ∈ ys ↔ ∃ i u, i ∈ seen ∧ l[i]? = some (y, u) ∧ u + F y = c) :
    y ∈ ys ↔ ∃ i' u, i' ∈ seen ++ [i] ∧ l[i']? = some (y, u) ∧ u + F y = c := by
  rw [h]
  constructor
  · rintro ⟨i', u', h1, h2⟩
    exact ⟨i', u', List.mem_append.2 (.inl h1), h2⟩
  · rintro ⟨i', u', h1, h2, h3⟩
    rcases List.mem_append.1 h1 with h1 | h1
    · exact ⟨i', u', h1, h2, h3⟩
    · rw [List.mem_singleton] at h1
      subst h1
      rw [hu] at h2
      injection h2 with h2
      injection h2 with h2 h4
      subst h2 h4
      exact absurd h3 he

set_option maxRecDepth 20000 in
set_option maxHeartbeats 6400000 in
theorem nexts_any (n bm fb t : Nat) (xs : List T3) (l : List (Int × Int)) (F : Int → Int) (w : World) (hg : GraphAt n bm xs w) (hok : RoadOk n xs) (ht : t < n) (hm : MapG w fb (valL l)) (hd : (l.map (·.1)).Nodup)
    (hl : ∀ v u, (v, u) ∈ nbr xs t → (v, F v) ∈ l) (hlt : ((t : Int), F t) ∈ l) (hF : ∀ v u, (v, u) ∈ nbr xs t → 0 ≤ F v ∧ F v ≤ 1000) (hne : ∃ v u, (v, u) ∈ nbr xs t ∧ u + F v = F t) :
    Calls Tryz.prog 53 #[.map (some bm), .map (some fb), .int .i64 t] w
      (NextsRet w (fun ys => (∀ y, y ∈ ys ↔ ∃ u, (y, u) ∈ nbr xs t ∧ u + F y = F t) ∧ ys.Pairwise (· ≤ ·) ∧ 0 < ys.length)) := by
  have HG := Lib.hid hg
  have HOK := Lib.hid hok
  have HM := Lib.hid hm
  have HKD := Lib.hid (show KeysD (valL l) by unfold KeysD; rw [valL_keys]; exact hd)
  have HL := Lib.hid hl
  have HLT := Lib.hid (valL_mem hlt)
  have HF := Lib.hid hF
  have HNE := Lib.hid hne
  have hfb := hm.lt
  have h8 : (valL (nbr xs t)).length ≤ 8 := by rw [valL_len]; exact Nat.le_trans (nbr_len8 hok t) (by have := hok.2.1; omega)
  have H8 := Lib.hid h8
  clear hg hok hm hd hl hlt hF hne h8
  go_enter Tryz.func53, Tryz.ntmps53
  have HB0 := Lib.hid (below_alloc (Below.refl w.heap.size w) (.cells #[] 3))
  have hs0 : (w.alloc (.cells #[] 3)).heap.size = w.heap.size + 1 := by show (w.heap.push _).size = _; rw [Array.size_push]
  have HS0 := Lib.hid hs0
  have HO0 := Lib.hid (own_new (enc := encI) (k := 1) w 3 w.heap.size (Nat.le_refl _) encI_len [] #[] rfl (by simp) rfl)
  clear hs0
  go_wp2_with (first
    | (at_lookup; (refine wp_lookG _ rfl _ _ 88 _ rfl _ _ Tryz.underlying88 Tryz.underlying3 bm (topL bm n) rfl (HG.out.below HB0.out).1 (topL_D _ _) (t : Int) rfl _ (topL_mem ht) ?_))
    | (at_range; (refine wp_rangeG _ rfl _ 91 rfl _ _ Tryz.underlying91 (bm + 1 + t) (valL (nbr xs t)) rfl ((HG.out.below HB0.out).2 t ht) ?_); intro w5 hi5 hg5 hs5; have HI5 := Lib.hid hi5; have HG5 := Lib.hid hg5; have HS5 := Lib.hid hs5; clear hi5 hg5 hs5; go_frame))
  have HB5 := Lib.hid (HB0.out.trans ((below_of_grown0 HG5.out).mono HB0.out.size))
  have HO5 := Lib.hid (HO0.out.below (below_of_grown0 HG5.out) (Nat.le_refl _))
  have hi6 := HI5.out
  rw [HS0.out] at hi6
  have HI6 := Lib.hid hi6
  have hrw : w.heap.size + 1 < w5.heap.size := by have := HS5.out; have := HS0.out; omega
  clear hi6 HI5
  go_wp2_with fail
  go_loopg [7, 8, 9] (restC (valL (nbr xs t)).length []) (fun k s _ _ wl => NxI bm (w.heap.size + 1) t xs F w s k wl ∧ w.heap.size + 1 < wl.heap.size)
  case atStart => exact ⟨⟨[], [], HI6.out, rfl, HO5.out, fun e => absurd (show w.heap.size = w.heap.size + 1 from Option.some.inj e) (by omega), HB5.out, fun y => ⟨fun h => (by cases h), fun ⟨_, _, h, _⟩ => (by cases h)⟩, by rw [restC_nil]; simp⟩, hrw⟩
  case round =>
    obtain ⟨⟨seen, ys, hit, hk2, hown, hne, hbl, hy, hcnt⟩, hrl⟩ := hrel
    have JI := Lib.hid hit
    have JK := Lib.hid hk2
    have JO := Lib.hid hown
    have JN := Lib.hid hne
    have JB := Lib.hid hbl
    have JY := Lib.hid hy
    have JC := Lib.hid hcnt
    clear hit hk2 hown hne hbl hy hcnt HI6 HO5
    go_wp2_with (at_next; (refine wp_nextG _ rfl _ rfl (w.heap.size + 1) (bm + 1 + t) (valL (nbr xs t)) seen rfl ((HG.out.below JB.out).2 t ht) JI.out ?_ ?_))
    · intro hall
      have hmem : ∀ y, y ∈ ys ↔ ∃ u, (y, u) ∈ nbr xs t ∧ u + F y = F t := fun y => by
        rw [JY.out y]
        constructor
        · rintro ⟨i, u, _, h2, h3⟩
          exact ⟨u, List.mem_of_getElem? h2, h3⟩
        · rintro ⟨u, h1, h2⟩
          obtain ⟨i, hi⟩ := List.getElem?_of_mem h1
          exact ⟨i, u, hall i (by rw [valL_len]; exact (List.getElem?_eq_some_iff.1 hi).1), hi, h2⟩
      have hpos : 0 < ys.length := by
        obtain ⟨v, u, h1, h2⟩ := HNE.out
        exact List.length_pos_of_mem ((hmem v).2 ⟨u, h1, h2⟩)
      obtain ⟨q, hq⟩ : ∃ q, ys.length = q := ⟨_, rfl⟩
      obtain ⟨A, c, rfl, -, -⟩ := JO.out.slc encI_len hq
      obtain ⟨g, rfl, -, hg1, -, -⟩ := JO.out.form hpos
      have HR := Lib.hid (show (∀ y, y ∈ isort ltI ys ↔ ∃ u, (y, u) ∈ nbr xs t ∧ u + F y = F t) ∧ (isort ltI ys).Pairwise (· ≤ ·) ∧ 0 < (isort ltI ys).length from
        ⟨fun y => by rw [(isort_perm ys).mem_iff]; exact hmem y, isort_sorted ys, by rw [isort_len]; exact hpos⟩)
      have hq12 : q ≤ 12 := by have := JC.out; have := H8.out; omega
      have HQ := Lib.hid hq
      clear hall hmem hpos hq
      go_wp2_with fail
      refine (sortI_any w.heap.size g q c ys wr JO.out HQ.out hq12).mono ?_
      rintro e w6 ⟨rfl, hown6, hg6⟩
      have HO6 := Lib.hid hown6
      have HB6 := Lib.hid (JB.out.grown hg6 JB.out.size (fun j hj => by injection hj with hj; omega))
      clear hown6 hg6
      go_wp2_with fail
      go_ret
      exact ⟨_, _, rfl, HR.out, HO6.out, HB6.out⟩
    · intro i x v w1 hi hns hit1 hg1 hs1 hen
      obtain ⟨u, rfl, hu⟩ := valL_at hi
      have hmu := List.mem_of_getElem? hu
      have heb := edge_bd HOK.out (nbr_edge hmu)
      have hfx := HF.out x u hmu
      have hil : i < (valL (nbr xs t)).length := (List.getElem?_eq_some_iff.1 hi).1
      have HRC := Lib.hid (restC_next hil hns)
      have LV := Lib.hid (valL_mem (HL.out x u hmu))
      have LI := Lib.hid hit1
      have LU := Lib.hid hu
      have LB := Lib.hid (JB.out.grown hg1 JB.out.size (fun i hi => by injection hi with hi; omega))
      have LO := Lib.hid (JO.out.apart hg1 (.inr JN.out))
      have LM := Lib.hid (HM.out.below LB.out hfb)
      have hu0 : 1 ≤ u := by omega
      have hu9 : u ≤ 99 := by omega
      have hw1 : w.heap.size + 1 < w1.heap.size := by omega
      have hy9 : ys.length ≤ 1000 := by have := JC.out; have := H8.out; omega
      clear hi hns hit1 hg1 hs1 hu hmu heb JI JB JO
      by_cases heq : u + F x = F t
      · have HE := Lib.hid heq
        have hde : (u + F x == F t) = true := by simpa using heq
        clear heq
        go_wp2_with (first
          | (at_lookup; (refine wp_lookG _ rfl _ _ 91 _ rfl _ _ Tryz.underlying91 Tryz.underlying3 fb (valL l) rfl LM.out HKD.out x rfl _ LV.out ?_))
          | (at_lookup; (refine wp_lookG _ rfl _ _ 91 _ rfl _ _ Tryz.underlying91 Tryz.underlying3 fb (valL l) rfl LM.out HKD.out (t : Int) rfl _ HLT.out ?_))
          | (at_builtin; go_loud (refine wpList_push_at 1 8 3 encI encI_len encI_one (by omega) x _ _ rfl rfl _ _ _ rfl Tryz.underlying29 info_intN rfl w.heap.size _ ys rfl rfl (by simp) LO.out (by omega) (by unfold maxLen; omega) (by have := LB.out.size; omega) ?_); intro v' w' hown' hg' hl'; have HO' := Lib.hid hown'; have HB' := Lib.hid (below_grown LB.out hg' LO.out (Nat.le_refl _)); have HN' := Lib.hid (away_next JN.out hl' (by omega)); have HI' := Lib.hid (LI.out.grownR hg' JN.out); have HS' := Lib.hid hg'.size; clear hown' hg' hl'))
        go_roundg (restC (valL (nbr xs t)).length (seen ++ [i]))
        case measure => have := HRC.out; have := JK.out; omega
        case rel => exact ⟨⟨seen ++ [i], ys ++ [x], HI'.out, rfl, HO'.out, HN'.out, HB'.out, fun y => nxt_yes LU.out HE.out (JY.out y), by have := HRC.out; have := JK.out; have := JC.out; rw [List.length_append, List.length_singleton]; omega⟩, Nat.lt_of_lt_of_le hw1 HS'.out⟩
      · have HE := Lib.hid heq
        have hde : (u + F x == F t) = false := by simpa using heq
        clear heq
        go_wp2_with (first
          | (at_lookup; (refine wp_lookG _ rfl _ _ 91 _ rfl _ _ Tryz.underlying91 Tryz.underlying3 fb (valL l) rfl LM.out HKD.out x rfl _ LV.out ?_))
          | (at_lookup; (refine wp_lookG _ rfl _ _ 91 _ rfl _ _ Tryz.underlying91 Tryz.underlying3 fb (valL l) rfl LM.out HKD.out (t : Int) rfl _ HLT.out ?_)))
        go_roundg (restC (valL (nbr xs t)).length (seen ++ [i]))
        case measure => have := HRC.out; have := JK.out; omega
        case rel => exact ⟨⟨seen ++ [i], ys, LI.out, rfl, LO.out, JN.out, LB.out, fun y => nxt_no LU.out HE.out (JY.out y), by have := HRC.out; have := JK.out; have := JC.out; omega⟩, hw1⟩
end Go.Proofs.YtgjllminidlolaaGreatDoor
/- Contracts: RoadsWay of the program. -/
set_option linter.unusedVariables false
namespace Go.Proofs.YtgjllminidlolaaGreatDoor
open Go.RowKit Go.MapKept

theorem far_reach {n : Int} {xs : List T3} {c a v u : Int} (hq : FarQ n xs c a) (ha : ∃ d, Way xs c a d) (he : Edge xs a v u) : IsFar xs c a (farV n xs c a) ∧ IsFar xs c v (farV n xs c v) := by
  obtain ⟨d, hd⟩ := ha
  have hb := edge_bd hq.1 he
  exact ⟨(farV_way hq hd).1, (farV_way (n := n) (b := v) ⟨hq.1, hq.2.1, hb.2.2.1, hb.2.2.2.1⟩ (Way.on hd he)).1⟩
/-- The way goes on with the least of the towns. -/
theorem way_least {n : Int} {xs : List T3} (hok : RoadOk n xs) {c a v : Int} {l ys : List Int} (hc : 0 ≤ c ∧ c < n) (ha : 0 ≤ a ∧ a < n) (hr : ∃ d, Way xs c a d) (hy : ∀ y, y ∈ ys ↔ ∃ u, (y, u) ∈ nbr xs a ∧ u + farV n xs c y = farV n xs c a) (hs : ys.Pairwise (· ≤ ·)) (h0 : ys[0]? = some v) (hw : WayP xs c a l) (hne : a ≠ c) :
    ∃ l', l = a :: l' ∧ WayP xs c v l' ∧ (∃ d, Way xs c v d) ∧ 0 ≤ v ∧ v < n := by
  have hnext : ∀ y, y ∈ ys ↔ NextP xs c a y := fun y => by
    rw [hy y]
    constructor
    · rintro ⟨u, h1, h2⟩
      have he := nbr_edge h1
      have hf := far_reach (n := n) ⟨hok, hc, ha⟩ hr he
      refine ⟨u, _, he, hf.2, ?_⟩
      rw [show farV n xs c y + u = farV n xs c a by omega]
      exact hf.1
    · rintro ⟨u, dv, he, h1, h2⟩
      have hf := far_reach (n := n) ⟨hok, hc, ha⟩ hr he
      refine ⟨u, edge_nbr hok.2.2.2 he, ?_⟩
      have e1 := far_unique h1 hf.2
      have e2 := far_unique h2 hf.1
      omega
  have hfirst : FirstNext xs c a v := by
    refine ⟨(hnext v).1 (List.mem_of_getElem? h0), fun y hy' => ?_⟩
    have hm := (hnext y).2 hy'
    cases ys with
    | nil => cases h0
    | cons z zs =>
      obtain rfl : z = v := by simpa using h0
      rcases List.mem_cons.1 hm with rfl | hm
      · exact Int.le_refl _
      · exact List.rel_of_pairwise_cons hs hm
  cases hw with
  | here => exact absurd rfl hne
  | @on _ v' l' h1 h2 h3 =>
    obtain rfl := first_unique h2 hfirst
    obtain ⟨u, dv, he, h4, _⟩ := h2.1
    have hb := edge_bd hok he
    exact ⟨l', rfl, h3, ⟨dv, h4.1⟩, hb.2.2.1, hb.2.2.2.1⟩
theorem wayP_head {xs : List T3} {b a : Int} {l : List Int} (h : WayP xs b a l) : ∃ l', l = a :: l' := by
  cases h with
  | here => exact ⟨[], rfl⟩
  | on h1 h2 h3 => exact ⟨_, rfl⟩
theorem wayP_last {xs : List T3} {b : Int} {l : List Int} (h : WayP xs b b l) : l = [b] := by
  cases h with
  | here => rfl
  | on h1 h2 h3 => exact absurd rfl h1
/-- While the way is gone. -/
def WayI (n : Int) (xs : List T3) (c : Int) (full : List Int) (w : World) (B : Nat) (v : Value) (k : Nat) (at_ : Int) (W : World) : Prop :=
  ∃ (pre l : List Int), pre ++ at_ :: l = full ∧ WayP xs c at_ (at_ :: l) ∧ (∃ d, Way xs c at_ d) ∧ 0 ≤ at_ ∧ at_ < n ∧ OwnE 1 encI 3 B W v (pre ++ [at_]) ∧ Below w.heap.size w W ∧ k = l.length

set_option maxRecDepth 20000 in
set_option maxHeartbeats 6400000 in
theorem implRoadsWay_any (A : Option Addr) (n a c : Int) (len cap : Nat) (xs : List T3) (w : World) (h : SlE 3 enc3 w A len xs) (hn : len ≤ 16777216) :
    Calls Tryz.prog 24 #[.int .i64 n, .slice A len cap, .int .i64 a, .int .i64 c] w (RetOwnB 1 encI 3 (wayV n xs a c) (decide (0 ≤ farV n xs a c)) w) := by
  have H := Lib.hid h
  clear h
  by_cases hf : 0 ≤ farV n xs a c
  rotate_left
  · have HW := Lib.hid (wayV_no (n := n) (xs := xs) (a := a) (b := c) (by omega))
    have HD := Lib.hid (show decide (0 ≤ farV n xs a c) = false by simpa using hf)
    rw [HW.out, HD.out]
    have HR := Lib.hid (implRoadsFar_any A n a c len cap xs w H.out hn)
    generalize farV n xs a c = v at *
    have hv : v < 0 := by omega
    clear hf
    go_enter Tryz.func24, Tryz.ntmps24
    go_wp2_with fail
    refine HR.out.mono ?_
    rintro e w1 ⟨rfl, hb⟩
    have HB := Lib.hid hb
    clear hb
    go_wp2_with fail
    go_ret2
    exact ⟨_, rfl, own_new w1 _ _ HB.out.size encI_len [] #[] rfl (by simp) rfl, below_alloc HB.out _⟩
  have HD := Lib.hid (show decide (0 ≤ farV n xs a c) = true by simpa using hf)
  rw [HD.out]
  obtain ⟨hq, hfar⟩ := farV_far hf
  have hwp := wayV_yes hf
  have HQ := Lib.hid hq
  have HW := Lib.hid hwp
  have HS := Lib.hid (far_symm hfar)
  have HR := Lib.hid (implRoadsFar_any A n a c len cap xs w H.out hn)
  have HV8 := Lib.hid (wayV_len hf)
  have HFB := Lib.hid (fun v => farV_bd n xs c v)
  generalize wayV n xs a c = full at *
  generalize farV n xs a c = v at *
  have hv : ¬ v < 0 := by omega
  have hac := hq.2
  clear hq hfar hwp hf
  obtain ⟨a, rfl⟩ : ∃ k : Nat, a = k := ⟨a.toNat, by omega⟩
  obtain ⟨c, rfl⟩ : ∃ k : Nat, c = k := ⟨c.toNat, by omega⟩
  go_enter Tryz.func24, Tryz.ntmps24
  go_wp2_with fail
  refine HR.out.mono ?_
  rintro e w1 ⟨rfl, hb⟩
  have HB1 := Lib.hid hb
  clear hb HR
  go_wp2_with fail
  refine (mapRoads_any A n len cap xs w1 (H.out.below HB1.out) hn).mono ?_
  rintro e w2 ⟨hb, ⟨hok, m, bm, rfl, rfl, hbm, hg⟩ | ⟨hno, rfl⟩⟩
  rotate_left
  · exact absurd HQ.out.1 hno
  have HB2 := Lib.hid (below_trans HB1.out hb)
  have HG := Lib.hid hg
  have ham : a < m := by omega
  have hcm : c < m := by omega
  clear hb hok hg
  go_wp2_with fail
  refine (distances_any m bm c xs w2 HG.out HQ.out.1 hcm).mono ?_
  rintro e w3 ⟨fb, l, rfl, hm, hnd, hin, hno, -, hb3, hg3⟩
  have HM3 := Lib.hid hm
  have HN3 := Lib.hid hnd
  have HI3 := Lib.hid hin
  have HB3 := Lib.hid (below_trans HB2.out hb3)
  have HG3 := Lib.hid hg3
  have hsz := HB3.out.size
  clear hm hnd hin hno hb3 hg3 hac
  have HO3 := Lib.hid (own_new (enc := encI) (k := 1) w3 3 w3.heap.size (Nat.le_refl _) encI_len [(a : Int)] #[.int .i64 (a : Int)] rfl (by simp [maxLen]) rfl)
  have HB4 := Lib.hid (below_alloc HB3.out (.cells #[.int .i64 (a : Int)] 3))
  have HB34 := Lib.hid (below_alloc (Below.refl w3.heap.size w3) (.cells #[.int .i64 (a : Int)] 3))
  go_wp2_with fail
  go_loopg [13, 14] 8 (fun k s i wl => ∃ (k' t : Nat), i = .int .i64 t ∧ WayI m xs c full w w3.heap.size s k' t wl ∧ Below w3.heap.size w3 wl ∧ k' ≤ k ∧ k ≤ 8)
  case atStart =>
    obtain ⟨l0, hl0⟩ := wayP_head HW.out
    have hl8 := HV8.out.2
    rw [hl0, List.length_cons] at hl8
    refine ⟨l0.length, a, rfl, ⟨[], l0, by rw [hl0]; rfl, by rw [← hl0]; exact HW.out, ⟨_, HS.out.1⟩, by omega, by omega, HO3.out, HB4.out, rfl⟩, HB34.out, by omega, Nat.le_refl _⟩
  case round =>
    obtain ⟨k', t, rfl, ⟨pre, l', hpl, hwp, hr, ht0, htn, hown, hbl, hkl⟩, hb3l, hkk, hk8⟩ := hrel
    have JP := Lib.hid hpl
    have JW := Lib.hid hwp
    have JR := Lib.hid hr
    have JO := Lib.hid hown
    have JB := Lib.hid hbl
    have JK := Lib.hid hkl
    have J3 := Lib.hid hb3l
    have JL := Lib.hid hkk
    clear hpl hwp hr hown hbl hkl hb3l hkk HO3 HB4 HB34
    by_cases htc : t = c
    · subst htc
      have HE := Lib.hid (wayP_last JW.out)
      have d1 : ((t : Int) != (t : Int)) = false := by simp
      go_wp2_with fail
      go_ret2
      refine ⟨_, rfl, ?_, JB.out⟩
      have e1 := JP.out
      rw [HE.out] at e1
      rw [← e1]
      exact JO.out.base_le hsz
    · have d1 : ((t : Int) != (c : Int)) = true := by simp; omega
      have htm : t < m := by omega
      have hti : (t : Int) ≠ (c : Int) := by omega
      have HFR := Lib.hid (fun (v u : Int) (h : (v, u) ∈ nbr xs t) => far_reach (n := m) (c := (c : Int)) ⟨HQ.out.1, ⟨by omega, by omega⟩, ⟨by omega, by omega⟩⟩ JR.out (nbr_edge h))
      have HNX := Lib.hid (next_exists HQ.out.1 (b := (c : Int)) ⟨by omega, by omega⟩ (farV_way (n := m) ⟨HQ.out.1, ⟨by omega, by omega⟩, ⟨by omega, by omega⟩⟩ JR.out.choose_spec).1 hti)
      go_wp2_with fail
      refine (nexts_any m bm fb t xs l (fun v => farV m xs c v) wr (HG3.out.below J3.out) HQ.out.1 htm (HM3.out.below J3.out HM3.out.lt) HN3.out (fun v u h => (HI3.out _ _).2 (HFR.out v u h).2) ((HI3.out _ _).2 (farV_way (n := m) ⟨HQ.out.1, ⟨by omega, by omega⟩, ⟨by omega, by omega⟩⟩ JR.out.choose_spec).1)
        (fun v u h => ?_) ?_).mono ?_
      · have h1 := HFB.out v
        have h2 := HFR.out v u h
        have h3 := way_bd HQ.out.1 ⟨by omega, by omega⟩ h2.2.1
        exact ⟨h3.2.2.1, by omega⟩
      · obtain ⟨y, u, dv, he, h1, h2⟩ := HNX.out
        refine ⟨y, u, edge_nbr HQ.out.1.2.2.2 he, ?_⟩
        have hh := HFR.out y u (edge_nbr HQ.out.1.2.2.2 he)
        have e1 := far_unique h1 hh.2
        have e2 := far_unique h2 hh.1
        try dsimp only
        omega
      rintro e w5 ⟨v5, ys, rfl, ⟨hmem, hsort, hpos⟩, hown5, hb5⟩
      obtain ⟨q, hq⟩ : ∃ q, ys.length = q := ⟨_, rfl⟩
      obtain ⟨A5, c5, rfl, hs5, -⟩ := hown5.slc encI_len hq
      have hqp : 0 < q := by omega
      obtain ⟨bb, off, y0, rfl, hbl5, hy0, -, g0⟩ := at1 hs5 (Below.refl _ w5) hqp
      obtain ⟨l2, hl2, hw2, hr2, hy0a, hy0b⟩ := way_least HQ.out.1 (c := (c : Int)) (a := (t : Int)) ⟨by omega, by omega⟩ ⟨by omega, by omega⟩ JR.out hmem hsort hy0 JW.out hti
      obtain rfl : l' = l2 := by injection hl2
      obtain ⟨l3, rfl⟩ := wayP_head hw2
      obtain ⟨y0, rfl⟩ : ∃ i : Nat, y0 = i := ⟨y0.toNat, by omega⟩
      have LW := Lib.hid hw2
      have LR := Lib.hid hr2
      have LO := Lib.hid (JO.out.below hb5 (Nat.le_refl _))
      have LB := Lib.hid (below_trans JB.out hb5)
      have L3 := Lib.hid (below_trans J3.out hb5)
      have hpl8 : (pre ++ [(t : Int)]).length ≤ 100 := by
        have h1 := JP.out
        have h2 := HV8.out.2
        rw [← h1, List.length_append, List.length_cons] at h2
        rw [List.length_append, List.length_singleton]
        omega
      have LP := Lib.hid (show (pre ++ [(t : Int)]) ++ (y0 : Int) :: l3 = full by rw [List.append_assoc]; exact JP.out)
      have LK := Lib.hid (show l3.length + 1 ≤ gk by have := JK.out; have := JL.out; rw [List.length_cons] at *; omega)
      have hw3s : w3.heap.size ≤ w5.heap.size := L3.out.size
      rw [Nat.add_zero] at g0
      clear hmem hsort hpos hown5 hb5 hs5 hy0 hl2 hw2 hr2 JP JW JR JO JB JK J3 JL HFR HNX hq
      go_wp2_with (at_builtin; go_loud (refine wpList_push 1 8 3 encI encI_len encI_one (by omega) (y0 : Int) _ _ rfl rfl _ _ _ rfl Tryz.underlying29 info_intN rfl w3.heap.size _ (pre ++ [(t : Int)]) rfl rfl (by simp) LO.out (by omega) (by unfold maxLen; omega) (by omega) ?_); intro v' w' hown' hg'; have HO' := Lib.hid hown'; have HB' := Lib.hid (LB.out.grown hg' LB.out.size (fun j hj => Nat.le_trans hsz (LO.out.lt j hj).1)); have H3' := Lib.hid (L3.out.grown hg' L3.out.size (fun j hj => (LO.out.lt j hj).1)); clear hown' hg')
      go_roundg (gk - 1)
      case measure => have := LK.out; omega
      case rel => exact ⟨l3.length, y0, rfl, ⟨pre ++ [(t : Int)], l3, LP.out, LW.out, LR.out, hy0a, hy0b, HO'.out, HB'.out, rfl⟩, H3'.out, by have := LK.out; omega, by omega⟩
end Go.Proofs.YtgjllminidlolaaGreatDoor
/- Contracts: RoadsWay of the reference. -/
set_option linter.unusedVariables false
namespace Go.Proofs.YtgjllminidlolaaGreatDoor
open Go.RowKit Go.MapKept

/-! ### Where a road lies: nothing is turned -/
set_option maxRecDepth 20000 in
set_option maxHeartbeats 3200000 in
theorem l1Find_ltS (A : Option Addr) (a c : Int) (len cap : Nat) (xs : List T3) (w : World) (h : SlE 3 enc3 w A len xs) (hn : len ≤ 16777216) (hac : a < c) :
    Calls Tryz.prog 56 #[.slice A len cap, .int .i64 a, .int .i64 c] w (Same (.int .i64 (fndK xs a c 0)) w) := by
  have H := Lib.hid h
  have hxl := h.len
  have HL := Lib.hid hxl
  clear h hxl
  have hca : ¬ c < a := by omega
  go_enter Tryz.func56, Tryz.ntmps56
  go_wp2_with fail
  go_loopw [7] (fun i wr => ∃ k : Nat, k ≤ len ∧ i = .int .i64 k ∧ NoTwin xs k a c ∧ w = wr) (fun i _ => len - (intOf i).toNat)
  case atStart => exact ⟨0, by omega, rfl, twin_nil _ _ _, rfl⟩
  case round =>
    obtain ⟨k, hk, rfl, htw, rfl⟩ := hrel
    have hbr := Below.refl w.heap.size w
    have HT := Lib.hid htw
    have HR := Lib.hid hbr
    clear htw hbr
    by_cases hlt : k < len
    rotate_left
    · obtain rfl : k = len := by omega
      have hT := HT.out
      rw [← HL.out] at hT
      have HM := Lib.hid (fndK_miss hT)
      clear hT
      go_wp2_with fail
      go_ret
      exact ⟨ret_int HM.out.symm, rfl⟩
    obtain ⟨b, off, x, y, z, rfl, hbl, hx, hd, g0, g1, g2⟩ := at3 H.out HR.out hlt
    have HX := Lib.hid hx
    clear hd hx
    by_cases e1 : x = a
    · have d1 : (x == a) = true := by simpa using e1
      by_cases e2 : y = c
      · have d2 : (y == c) = true := by simpa using e2
        have HM := Lib.hid (fndK_hit HT.out HX.out ⟨e1, e2⟩)
        clear e1 e2
        go_wp2_with fail
        go_ret
        exact ⟨ret_int HM.out.symm, rfl⟩
      · have d2 : (y == c) = false := by simpa using e2
        have HTW := Lib.hid (twin_next HT.out HX.out (fun h => e2 h.2))
        clear e1 e2
        go_wp2_with fail
        go_roundw
        case rel => exact ⟨k + 1, by omega, by go_num, HTW.out, by first | rfl | trivial⟩
        case measure => simp [intOf]; omega
    · have d1 : (x == a) = false := by simpa using e1
      have HTW := Lib.hid (twin_next HT.out HX.out (fun h => e1 h.1))
      clear e1
      go_wp2_with fail
      go_roundw
      case rel => exact ⟨k + 1, by omega, by go_num, HTW.out, by first | rfl | trivial⟩
      case measure => simp [intOf]; omega
set_option maxRecDepth 20000 in
set_option maxHeartbeats 3200000 in
theorem l1Find_gtS (A : Option Addr) (a c : Int) (len cap : Nat) (xs : List T3) (w : World) (h : SlE 3 enc3 w A len xs) (hn : len ≤ 16777216) (hca : c < a) :
    Calls Tryz.prog 56 #[.slice A len cap, .int .i64 a, .int .i64 c] w (Same (.int .i64 (fndK xs c a 0)) w) := by
  have H := Lib.hid h
  have hxl := h.len
  have HL := Lib.hid hxl
  clear h hxl
  have hac : ¬ a < c := by omega
  go_enter Tryz.func56, Tryz.ntmps56
  go_wp2_with fail
  go_loopw [7] (fun i wr => ∃ k : Nat, k ≤ len ∧ i = .int .i64 k ∧ NoTwin xs k c a ∧ w = wr) (fun i _ => len - (intOf i).toNat)
  case atStart => exact ⟨0, by omega, rfl, twin_nil _ _ _, rfl⟩
  case round =>
    obtain ⟨k, hk, rfl, htw, rfl⟩ := hrel
    have hbr := Below.refl w.heap.size w
    have HT := Lib.hid htw
    have HR := Lib.hid hbr
    clear htw hbr
    by_cases hlt : k < len
    rotate_left
    · obtain rfl : k = len := by omega
      have hT := HT.out
      rw [← HL.out] at hT
      have HM := Lib.hid (fndK_miss hT)
      clear hT
      go_wp2_with fail
      go_ret
      exact ⟨ret_int HM.out.symm, rfl⟩
    obtain ⟨b, off, x, y, z, rfl, hbl, hx, hd, g0, g1, g2⟩ := at3 H.out HR.out hlt
    have HX := Lib.hid hx
    clear hd hx
    by_cases e1 : x = c
    · have d1 : (x == c) = true := by simpa using e1
      by_cases e2 : y = a
      · have d2 : (y == a) = true := by simpa using e2
        have HM := Lib.hid (fndK_hit HT.out HX.out ⟨e1, e2⟩)
        clear e1 e2
        go_wp2_with fail
        go_ret
        exact ⟨ret_int HM.out.symm, rfl⟩
      · have d2 : (y == a) = false := by simpa using e2
        have HTW := Lib.hid (twin_next HT.out HX.out (fun h => e2 h.2))
        clear e1 e2
        go_wp2_with fail
        go_roundw
        case rel => exact ⟨k + 1, by omega, by go_num, HTW.out, by first | rfl | trivial⟩
        case measure => simp [intOf]; omega
    · have d1 : (x == c) = false := by simpa using e1
      have HTW := Lib.hid (twin_next HT.out HX.out (fun h => e1 h.1))
      clear e1
      go_wp2_with fail
      go_roundw
      case rel => exact ⟨k + 1, by omega, by go_num, HTW.out, by first | rfl | trivial⟩
      case measure => simp [intOf]; omega
set_option maxRecDepth 20000 in
set_option maxHeartbeats 3200000 in
theorem l1Find_eqS (A : Option Addr) (a : Int) (len cap : Nat) (xs : List T3) (w : World) (h : SlE 3 enc3 w A len xs) (hn : len ≤ 16777216)  :
    Calls Tryz.prog 56 #[.slice A len cap, .int .i64 a, .int .i64 a] w (Same (.int .i64 (fndK xs a a 0)) w) := by
  have H := Lib.hid h
  have hxl := h.len
  have HL := Lib.hid hxl
  clear h hxl
  have hac : ¬ a < a := by omega
  go_enter Tryz.func56, Tryz.ntmps56
  go_wp2_with fail
  go_loopw [7] (fun i wr => ∃ k : Nat, k ≤ len ∧ i = .int .i64 k ∧ NoTwin xs k a a ∧ w = wr) (fun i _ => len - (intOf i).toNat)
  case atStart => exact ⟨0, by omega, rfl, twin_nil _ _ _, rfl⟩
  case round =>
    obtain ⟨k, hk, rfl, htw, rfl⟩ := hrel
    have hbr := Below.refl w.heap.size w
    have HT := Lib.hid htw
    have HR := Lib.hid hbr
    clear htw hbr
    by_cases hlt : k < len
    rotate_left
    · obtain rfl : k = len := by omega
      have hT := HT.out
      rw [← HL.out] at hT
      have HM := Lib.hid (fndK_miss hT)
      clear hT
      go_wp2_with fail
      go_ret
      exact ⟨ret_int HM.out.symm, rfl⟩
    obtain ⟨b, off, x, y, z, rfl, hbl, hx, hd, g0, g1, g2⟩ := at3 H.out HR.out hlt
    have HX := Lib.hid hx
    clear hd hx
    by_cases e1 : x = a
    · have d1 : (x == a) = true := by simpa using e1
      by_cases e2 : y = a
      · have d2 : (y == a) = true := by simpa using e2
        have HM := Lib.hid (fndK_hit HT.out HX.out ⟨e1, e2⟩)
        clear e1 e2
        go_wp2_with fail
        go_ret
        exact ⟨ret_int HM.out.symm, rfl⟩
      · have d2 : (y == a) = false := by simpa using e2
        have HTW := Lib.hid (twin_next HT.out HX.out (fun h => e2 h.2))
        clear e1 e2
        go_wp2_with fail
        go_roundw
        case rel => exact ⟨k + 1, by omega, by go_num, HTW.out, by first | rfl | trivial⟩
        case measure => simp [intOf]; omega
    · have d1 : (x == a) = false := by simpa using e1
      have HTW := Lib.hid (twin_next HT.out HX.out (fun h => e1 h.1))
      clear e1
      go_wp2_with fail
      go_roundw
      case rel => exact ⟨k + 1, by omega, by go_num, HTW.out, by first | rfl | trivial⟩
      case measure => simp [intOf]; omega
theorem l1Find_anyS (A : Option Addr) (a c : Int) (len cap : Nat) (xs : List T3) (w : World) (h : SlE 3 enc3 w A len xs) (hn : len ≤ 16777216) :
    Calls Tryz.prog 56 #[.slice A len cap, .int .i64 a, .int .i64 c] w (Same (.int .i64 (fndR xs a c)) w) := by
  unfold fndR
  rcases Int.lt_trichotomy a c with e | e | e
  · rw [Int.min_eq_left (by omega), Int.max_eq_right (by omega)]
    exact l1Find_ltS A a c len cap xs w h hn e
  · subst e
    rw [Int.min_self, Int.max_self]
    exact l1Find_eqS A a len cap xs w h hn
  · rw [Int.min_eq_right (by omega), Int.max_eq_left (by omega)]
    exact l1Find_gtS A a c len cap xs w h hn e

/-- What the table of the reference says about the next town. -/
theorem ref_next {n : Nat} {xs : List T3} (hok : RoadOk n xs) {c a v : Int} (hc : 0 ≤ c ∧ c < n) (hr : ∃ d, Way xs c a d) : NextP xs c a v ↔ v ≠ a ∧ ∃ (j : Nat) (p : T3), fndR xs a v = j ∧ xs[j]? = some p ∧ p.c + rounds xs c n v = rounds xs c n a := by
  have key : ∀ u, (∃ d, Way xs c u d) → IsFar xs c u (rounds xs c n u) := fun u ⟨d, hd⟩ => by
    have hb := way_bd hok hc hd
    obtain ⟨d0, h0⟩ := far_exists hok hc d.toNat u d hd (by omega)
    rw [((rounds_all hok hc u).1 d0 h0).1]
    exact h0
  constructor
  · rintro ⟨w, dv, he, h1, h2⟩
    have hb := edge_bd hok he
    refine ⟨fun e => hb.2.2.2.2.2.2 e.symm, ?_⟩
    rcases fndR_spec hok a v with ⟨_, h3⟩ | ⟨j, p, h3, h4, h5, _⟩
    · exact absurd he (h3 w)
    · have e1 := edge_unique hok he h5
      have e2 := far_unique h1 (key v ⟨_, h1.1⟩)
      have e3 := far_unique h2 (key a ⟨_, h2.1⟩)
      exact ⟨j, p, h3, h4, by omega⟩
  · rintro ⟨_, j, p, h3, h4, h5⟩
    rcases fndR_spec hok a v with ⟨h6, _⟩ | ⟨j', p', h6, h7, h8, _⟩
    · omega
    · obtain rfl : j = j' := by omega
      obtain rfl : p = p' := by rw [h4] at h7; exact Option.some.inj h7
      obtain ⟨d, hd⟩ := hr
      have e1 := key v ⟨_, Way.on hd h8⟩
      have e2 := key a ⟨d, hd⟩
      rw [← h5, Int.add_comm] at e2
      exact ⟨p.c, _, h8, e1, e2⟩
/-- The way goes on with the first town that fits. -/
theorem way_first {n : Int} {xs : List T3} (hok : RoadOk n xs) {c a v : Int} {l : List Int} (hv : FirstNext xs c a v) (hw : WayP xs c a l) (hne : a ≠ c) :
    ∃ l', l = a :: l' ∧ WayP xs c v l' ∧ (∃ d, Way xs c v d) ∧ 0 ≤ v ∧ v < n := by
  cases hw with
  | here => exact absurd rfl hne
  | @on _ v' l' h1 h2 h3 =>
    obtain rfl := first_unique h2 hv
    obtain ⟨u, dv, he, h4, _⟩ := h2.1
    have hb := edge_bd hok he
    exact ⟨l', rfl, h3, ⟨dv, h4.1⟩, hb.2.2.1, hb.2.2.2.1⟩
theorem findQ (A : Option Addr) (a c : Int) (len cap : Nat) (xs : List T3) (w : World) (h : SlE 3 enc3 w A len xs) (hn : len ≤ 16777216) (r : Int) (hr : fndR xs a c = r) (d : Nat) :
    Calls Tryz.prog 56 #[.slice A len cap, .int .i64 a, .int .i64 c] (w.drewN d) fun e w' => e = .returned (.int .i64 r) ∧ w' = w.drewN d :=
  (l1Find_anyS A a c len cap xs (w.drewN d) (h.below (bl_drewN (Below.refl _ _) d)) hn).mono fun _ _ hp => by rw [hr] at hp; exact ⟨hp.1, hp.2.symm⟩

set_option maxRecDepth 20000 in
set_option maxHeartbeats 6400000 in
theorem specRoadsWay_any (A : Option Addr) (n a c : Int) (len cap : Nat) (xs : List T3) (w : World) (h : SlE 3 enc3 w A len xs) (hn : len ≤ 16777216) (h1 : -1000000 ≤ n) (h2 : n ≤ 1000000) :
    Calls Tryz.prog 25 #[.int .i64 n, .slice A len cap, .int .i64 a, .int .i64 c] w (RetOwnB 1 encI 3 (wayV n xs a c) (decide (0 ≤ farV n xs a c)) w) := by
  have H := Lib.hid h
  clear h
  by_cases hf : 0 ≤ farV n xs a c
  rotate_left
  · have HW := Lib.hid (wayV_no (n := n) (xs := xs) (a := a) (b := c) (by omega))
    have HD := Lib.hid (show decide (0 ≤ farV n xs a c) = false by simpa using hf)
    rw [HW.out, HD.out]
    have HR := Lib.hid (specRoadsFar_any A n a c len cap xs w H.out hn h1 h2)
    generalize farV n xs a c = v at *
    have hv : v < 0 := by omega
    clear hf
    go_enter Tryz.func25, Tryz.ntmps25
    go_wp2_with fail
    refine HR.out.mono ?_
    rintro e w1 ⟨rfl, hb⟩
    have HB := Lib.hid hb
    clear hb
    go_wp2_with fail
    go_ret2
    exact ⟨_, rfl, own_new w1 _ _ HB.out.size encI_len [] #[] rfl (by simp) rfl, below_alloc HB.out _⟩
  have HD := Lib.hid (show decide (0 ≤ farV n xs a c) = true by simpa using hf)
  rw [HD.out]
  obtain ⟨hq, hfar⟩ := farV_far hf
  have hwp := wayV_yes hf
  have HQ := Lib.hid hq
  have HW := Lib.hid hwp
  have HS := Lib.hid (far_symm hfar)
  have HR := Lib.hid (specRoadsFar_any A n a c len cap xs w H.out hn h1 h2)
  have HV8 := Lib.hid (wayV_len hf)
  generalize wayV n xs a c = full at *
  generalize farV n xs a c = v at *
  have hv : ¬ v < 0 := by omega
  have hac := hq.2
  have hn8 := hq.1.2.1
  clear hq hfar hwp hf h1 h2
  obtain ⟨n, rfl⟩ : ∃ k : Nat, n = k := ⟨n.toNat, by omega⟩
  obtain ⟨a, rfl⟩ : ∃ k : Nat, a = k := ⟨a.toNat, by omega⟩
  obtain ⟨c, rfl⟩ : ∃ k : Nat, c = k := ⟨c.toNat, by omega⟩
  go_enter Tryz.func25, Tryz.ntmps25
  go_wp2_with fail
  refine HR.out.mono ?_
  rintro e w1 ⟨rfl, hb⟩
  have HB1 := Lib.hid hb
  clear hb HR
  go_wp2_with fail
  have hcn : c < n := by omega
  have han : a < n := by omega
  refine (l1Far_any A n c len cap xs w1 (H.out.below HB1.out) hn HQ.out.1 hcn).mono ?_
  rintro e w3 ⟨vt, rfl, htab, hb3⟩
  obtain ⟨A0, c0, rfl, -, hc0⟩ := htab.slc encI_len (tblL_len n _)
  obtain ⟨g, rfl, -, hg0, hg1, hfz⟩ := htab.form (by rw [tblL_len]; omega)
  have HTB := Lib.hid htab
  have HB3 := Lib.hid (below_trans HB1.out hb3)
  have hsz := HB3.out.size
  clear htab hb3 hac hfz
  have hsnd := fun t => snd_bdF (snd_rounds HQ.out.1 (c : Int) n) t
  generalize hF : rounds xs c n = F at *
  have HF := Lib.hid hF
  clear hF
  have HO3 := Lib.hid (own_new (enc := encI) (k := 1) w3 3 w3.heap.size (Nat.le_refl _) encI_len [(a : Int)] #[.int .i64 (a : Int)] rfl (by simp [maxLen]) rfl)
  have HB4 := Lib.hid (below_alloc HB3.out (.cells #[.int .i64 (a : Int)] 3))
  have HB34 := Lib.hid (below_alloc (Below.refl w3.heap.size w3) (.cells #[.int .i64 (a : Int)] 3))
  go_wp2_with fail
  go_loopg [2, 11, 12] 8 (fun k i s _ wl => ∃ (k' t : Nat), i = .int .i64 t ∧ WayI n xs c full w w3.heap.size s k' t wl ∧ Below w3.heap.size w3 wl ∧ k' ≤ k ∧ k ≤ 8)
  case atStart =>
    obtain ⟨l0, hl0⟩ := wayP_head HW.out
    have hl8 := HV8.out.2
    rw [hl0, List.length_cons] at hl8
    refine ⟨l0.length, a, rfl, ⟨[], l0, by rw [hl0]; rfl, by rw [← hl0]; exact HW.out, ⟨_, HS.out.1⟩, by omega, by omega, HO3.out, HB4.out, rfl⟩, HB34.out, by omega, Nat.le_refl _⟩
  case round =>
    obtain ⟨k', t, rfl, ⟨pre, l', hpl, hwp, hr, ht0, htn, hown, hbl, hkl⟩, hb3l, hkk, hk8⟩ := hrel
    have JP := Lib.hid hpl
    have JW := Lib.hid hwp
    have JR := Lib.hid hr
    have JO := Lib.hid hown
    have JB := Lib.hid hbl
    have JK := Lib.hid hkl
    have J3 := Lib.hid hb3l
    have JL := Lib.hid hkk
    clear hpl hwp hr hown hbl hkl hb3l hkk HO3 HB4 HB34
    by_cases htc : t = c
    · subst htc
      have HE := Lib.hid (wayP_last JW.out)
      have d1 : ((t : Int) != (t : Int)) = false := by simp
      go_wp2_with fail
      go_ret2
      refine ⟨_, rfl, ?_, JB.out⟩
      have e1 := JP.out
      rw [HE.out] at e1
      rw [← e1]
      exact JO.out.base_le hsz
    · have d1 : ((t : Int) != (c : Int)) = true := by simp; omega
      have hti : (t : Int) ≠ (c : Int) := by omega
      obtain ⟨vn, hvn⟩ := firstNext_exists HQ.out.1 (b := (c : Int)) ⟨by omega, by omega⟩ (farV_way (n := n) ⟨HQ.out.1, ⟨by omega, by omega⟩, ⟨by omega, by omega⟩⟩ JR.out.choose_spec).1 hti
      obtain ⟨l2, hl2, hw2, hr2, hy0a, hy0b⟩ := way_first HQ.out.1 hvn JW.out hti
      obtain rfl : l' = l2 := by injection hl2
      obtain ⟨l3, rfl⟩ := wayP_head hw2
      obtain ⟨vn, rfl⟩ : ∃ i : Nat, vn = i := ⟨vn.toNat, by omega⟩
      have LN := Lib.hid hvn
      have LW := Lib.hid hw2
      have LR := Lib.hid hr2
      have LT := Lib.hid (HTB.out.below J3.out (Nat.le_refl _))
      have htn' : t < n := by omega
      have hvn' : vn < n := by omega
      have NX := Lib.hid (fun v : Int => ref_next (n := n) HQ.out.1 (c := (c : Int)) (a := (t : Int)) (v := v) ⟨by omega, by omega⟩ JR.out)
      obtain ⟨W0, hW0⟩ : ∃ W0, W0 = wr := ⟨_, rfl⟩
      subst hW0
      clear hl2 hw2 hr2 hvn
      go_wp2_with fail
      go_loopw [12] (fun i wl => ∃ k : Nat, k ≤ vn ∧ i = .int .i64 k ∧ (∀ u : Nat, u < k → ¬ NextP xs c t u) ∧ Below W0.heap.size W0 wl) (fun i _ => vn - (intOf i).toNat)
      case atStart => exact ⟨0, by omega, rfl, fun u hu => by omega, Below.refl _ _⟩
      case round =>
        obtain ⟨k, hk, rfl, hno, hbk⟩ := hrel
        have KN := Lib.hid hno
        have KB := Lib.hid hbk
        have hk8 : k ≤ 8 := by omega
        have hkn : k < n := by omega
        have KR := Lib.hid (H.out.below (below_trans JB.out hbk))
        have KT := Lib.hid (LT.out.below hbk (by have := JB.out.size; have := J3.out.size; omega))
        have ck := OwnE.cell1 KT.out (j := k) (x := F k) (by rw [tblL_at _ hkn])
        have ct := OwnE.cell1 KT.out (j := t) (x := F t) (by rw [tblL_at _ htn'])
        have NK := Lib.hid (NX.out k)
        clear hno hbk
        obtain ⟨r, hr⟩ : ∃ r, fndR xs t k = r := ⟨_, rfl⟩
        have bk := (hsnd k)
        have bt := (hsnd t)
        generalize hfk : F k = fk at *
        generalize hft : F t = ft at *
        have HK := Lib.hid (And.intro hfk hft)
        have HQ1 := Lib.hid (fun W h d => findQ A t k len cap xs W h hn r hr d)
        clear hfk hft
        have GO := Lib.hid (fun (hx : ¬ NextP xs c t k) (u : Nat) (hu : u < k + 1) => show ¬ NextP xs c t u from if e : u = k then e ▸ hx else KN.out u (by omega))
        by_cases c1 : k = t
        · have d1 : ((k : Int) == (t : Int)) = true := by simp; omega
          have NN := Lib.hid (show ¬ NextP xs c t k by rw [NK.out, c1]; exact fun h => h.1 rfl)
          have hkv : k < vn := by
            rcases Nat.lt_or_ge k vn with h | h
            · exact h
            · obtain rfl : k = vn := by omega
              exact absurd LN.out.1 NN.out
          clear bk bt c1 hr
          go_wp2_with fail
          go_quiet (fail)
          have KBv := Lib.hid (bl_drewN KB.out nq)
          generalize wr.drewN nq = wv at *
          clear nq
          go_wp2_with fail
          go_roundw
          case rel => exact ⟨k + 1, by omega, by go_num, GO.out NN.out, KBv.out⟩
          case measure => simp [intOf]; omega
        have d1 : ((k : Int) == (t : Int)) = false := by simp; omega
        have hki : (k : Int) ≠ (t : Int) := by omega
        by_cases c2 : r < 0
        · have d2 : decide (r < 0) = true := by simpa using c2
          have NN := Lib.hid (show ¬ NextP xs c t k by rw [NK.out, hr]; rintro ⟨_, j, p, h3, _⟩; omega)
          have hkv : k < vn := by
            rcases Nat.lt_or_ge k vn with h | h
            · exact h
            · obtain rfl : k = vn := by omega
              exact absurd LN.out.1 NN.out
          clear bk bt c1 hki hr
          go_wp2_with fail
          go_quiet ((go_at_call 56; exact Calls.quiet_of_same (HQ1.out _ KR.out _)))
          have KBv := Lib.hid (bl_drewN KB.out nq)
          generalize wr.drewN nq = wv at *
          clear nq
          go_wp2_with fail
          go_roundw
          case rel => exact ⟨k + 1, by omega, by go_num, GO.out NN.out, KBv.out⟩
          case measure => simp [intOf]; omega
        have d2 : decide (r < 0) = false := by simpa using c2
        obtain ⟨j, p, hj, hpj⟩ : ∃ j p, fndR xs t k = (j : Nat) ∧ xs[j]? = some p := by
          rcases (fndR_bd xs t k).2 with h | h
          · omega
          · exact h
        obtain rfl : r = j := by omega
        have hjl : j < len := by rw [← H.out.len]; exact (List.getElem?_eq_some_iff.1 hpj).1
        obtain ⟨b, off, x, y, z, rfl, hblr, hx, hd, g0, g1, g2⟩ := at3 KR.out (Below.refl _ _) hjl
        obtain rfl : p = ⟨x, y, z⟩ := by rw [hpj] at hx; exact Option.some.inj hx
        have hob := HQ.out.1.2.2.2.1 _ (mem_at hpj)
        dsimp only at hob
        obtain ⟨s, hs⟩ : ∃ s, s = z + fk := ⟨_, rfl⟩
        have e1 : IntKind.i64.wrap (z + fk) = s := by rw [IntWalk.i64_in _ (by omega)]; exact hs.symm
        have NI := Lib.hid (show NextP xs c t k ↔ s = ft by
          rw [NK.out, hr, hs, HF.out, HK.out.1, HK.out.2]
          constructor
          · rintro ⟨_, j', p', h3, h4, h5⟩
            obtain rfl : j' = j := by omega
            rw [hpj] at h4
            obtain rfl := Option.some.inj h4
            exact h5
          · exact fun h => ⟨hki, j, _, rfl, hpj, h⟩)
        clear hx hd hob bk bt hs hr c1 hki c2 hpj hj
        by_cases c3 : s = ft
        · have d3 : (s != ft) = false := by simpa using c3
          have NN := Lib.hid (NI.out.2 c3)
          have HKV := Lib.hid (show k = vn by
            rcases Nat.lt_or_ge k vn with h | h
            · have := LN.out.2 _ NN.out
              omega
            · omega)
          clear c3
          go_wp2_with fail
          go_quiet ((go_at_call 56; exact Calls.quiet_of_same (HQ1.out _ KR.out _)))
          have KBv := Lib.hid (bl_drewN KB.out nq)
          generalize wr.drewN nq = wv at *
          clear nq
          have hkv := HKV.out
          clear HKV
          subst hkv
          have LO := Lib.hid (JO.out.below KBv.out (Nat.le_refl _))
          have LB := Lib.hid (below_trans JB.out KBv.out)
          have L3 := Lib.hid (below_trans J3.out KBv.out)
          have hpl8 : (pre ++ [(t : Int)]).length ≤ 100 := by
            have h1 := JP.out
            have h2 := HV8.out.2
            rw [← h1, List.length_append, List.length_cons] at h2
            rw [List.length_append, List.length_singleton]
            omega
          have LP := Lib.hid (show (pre ++ [(t : Int)]) ++ (k : Int) :: l3 = full by rw [List.append_assoc]; exact JP.out)
          have LK := Lib.hid (show l3.length + 1 ≤ gk by have := JK.out; have := JL.out; rw [List.length_cons] at *; omega)
          have hw3s : w3.heap.size ≤ wv.heap.size := L3.out.size
          clear JP JW JR JO JB JK J3 JL KB KT KR ck ct KBv HQ1 g0 g1 g2
          go_wp2_with (at_builtin; go_loud (refine wpList_push 1 8 3 encI encI_len encI_one (by omega) (k : Int) _ _ rfl rfl _ _ _ rfl Tryz.underlying29 info_intN rfl w3.heap.size _ (pre ++ [(t : Int)]) rfl rfl (by simp) LO.out (by omega) (by unfold maxLen; omega) (by omega) ?_); intro v' w' hown' hg'; have HO' := Lib.hid hown'; have HB' := Lib.hid (LB.out.grown hg' LB.out.size (fun j hj => Nat.le_trans hsz (LO.out.lt j hj).1)); have H3' := Lib.hid (L3.out.grown hg' L3.out.size (fun j hj => (LO.out.lt j hj).1)); clear hown' hg')
          go_roundg (gk - 1)
          case measure => have := LK.out; omega
          case rel => exact ⟨l3.length, k, rfl, ⟨pre ++ [(t : Int)], l3, LP.out, LW.out, LR.out, hy0a, hy0b, HO'.out, HB'.out, rfl⟩, H3'.out, by have := LK.out; omega, by omega⟩
        · have d3 : (s != ft) = true := by simpa using c3
          have NN := Lib.hid (fun h => c3 (NI.out.1 h))
          have hkv : k < vn := by
            rcases Nat.lt_or_ge k vn with h | h
            · exact h
            · obtain rfl : k = vn := by omega
              exact absurd LN.out.1 NN.out
          clear c3
          go_wp2_with fail
          go_quiet ((go_at_call 56; exact Calls.quiet_of_same (HQ1.out _ KR.out _)))
          have KBv := Lib.hid (bl_drewN KB.out nq)
          generalize wr.drewN nq = wv at *
          clear nq
          go_wp2_with fail
          go_roundw
          case rel => exact ⟨k + 1, by omega, by go_num, GO.out NN.out, KBv.out⟩
          case measure => simp [intOf]; omega
end Go.Proofs.YtgjllminidlolaaGreatDoor
