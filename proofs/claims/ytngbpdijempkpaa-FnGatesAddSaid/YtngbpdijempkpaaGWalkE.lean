/- Contracts: GatesAdd of both. -/
import Derived.Test.YtngbpdijempkpaaGWalkB
import Derived.Test.YtngbpdijempkpaaGPlainB
import Derived.Test.YtngbpdijempkpaaConG
import Derived.Test.YtngbpdijempkpaaCells
import Derived.Deep.RegionHeld3
import Derived.StillTailTactics
set_option linter.unusedVariables false
namespace Go.Proofs.Ytngbpdijempkpaa
open Go.RowKit

theorem belowB_drewN {B : Nat} {a b : World} (h : Below B a b) (n : Nat) : Below B a (b.drewN n) := by
  induction n generalizing b with
  | zero => exact h
  | succ n ih => exact (ih h).drew
theorem slE_dropAt {α : Type} {k : Nat} {enc : α → List Value} {w : World} {b off : Nat} {n : Nat} {xs : List α} (h : SlE k enc w (some ⟨b, off, none⟩) n xs) {j : Nat} (hj : j ≤ n) : SlE k enc w (some ⟨b, off + j * k, none⟩) (n - j) (xs.drop j) :=
  h.drop hj fun b' off' hA _ => by injection hA with hA; injection hA with h1 h2; subst h1 h2; rfl
theorem slE_cutAt {α : Type} {k : Nat} {enc : α → List Value} {w : World} {b off : Nat} {n cap : Nat} {xs : List α} (h : SlE k enc w (some ⟨b, off, none⟩) n xs) {j : Nat} (hj : j ≤ n) (hc : n ≤ cap) :
    SlE k enc w (if cap = j then some ⟨b, off, none⟩ else some ⟨b, off + j * k, none⟩) (n - j) (xs.drop j) := by
  split
  · exact ⟨by rw [List.length_drop, h.len], fun hn => absurd hn (by omega)⟩
  · exact slE_dropAt h hj
theorem slE_dropEnd {α : Type} {k : Nat} {enc : α → List Value} {w : World} {A A' : Option Addr} {n : Nat} {xs : List α} (h : SlE k enc w A n xs) {j : Nat} (hj : n ≤ j) : SlE k enc w A' (n - j) (xs.drop j) :=
  ⟨by rw [List.length_drop, h.len], fun hn => absurd hn (by omega)⟩
theorem slE_dropNil {α : Type} {k : Nat} {enc : α → List Value} {w : World} {A A' : Option Addr} {n : Nat} {xs : List α} (h : SlE k enc w A n xs) {j : Nat} (hj : n ≤ j) : SlE k enc w A' 0 (xs.drop j) :=
  ⟨by rw [List.length_drop, h.len]; omega, fun hn => absurd hn (by omega)⟩
theorem box_held (w : World) (x y z : Int) (W : World) (hW : Below (w.heap.size + 1) (w.alloc (.cells #[.int .i64 x, .int .i64 y, .int .i64 z] 31)) W) :
    W.cell? ⟨w.heap.size, 0, none⟩ = some (.int .i64 x) ∧ W.cell? ⟨w.heap.size, 1, none⟩ = some (.int .i64 y) ∧ W.cell? ⟨w.heap.size, 2, none⟩ = some (.int .i64 z) := by
  have hr : ∀ j, W.cell? ⟨w.heap.size, j, none⟩ = (#[.int .i64 x, .int .i64 y, .int .i64 z] : Array Value)[j]? := fun j => by
    rw [hW.cell (p := ⟨w.heap.size, j, none⟩) (by simp)]
    exact cell_of_row _ _ j _ 31 (0, 0) (heap_alloc_new w _)
  exact ⟨hr 0, hr 1, hr 2⟩
theorem box_below (w : World) (o : Obj) (W : World) (hW : Below (w.heap.size + 1) (w.alloc o) W) : Below w.heap.size w W := (below_alloc (Below.refl w.heap.size w) o).trans (hW.mono (by omega))

set_option maxRecDepth 20000 in
set_option maxHeartbeats 3200000 in
theorem specGatesAdd_any (A : Option Addr) (len cap : Nat) (xs : List T3) (x y z : Int) (ys : List T3) (b : Bool) (w : World) (h : SlE 3 enc3 w A len xs) (hn : len ≤ 1048577) (hlc : len ≤ cap)
    (hb : (b = true ∧ AddOk xs ⟨x, y, z⟩ ∧ ys = ins xs ⟨x, y, z⟩) ∨ (b = false ∧ ¬ AddOk xs ⟨x, y, z⟩ ∧ ys = [])) :
    Calls Try.prog 33 #[.slice A len cap, .agg #[.int .i64 x, .int .i64 y, .int .i64 z]] w (RetOwnB 3 enc3 31 ys b w) := by
  have H := Lib.hid h
  have HB := Lib.hid hb
  have HL := Lib.hid h.len
  have hll := lead_le x xs
  rw [h.len] at hll
  have HLL := Lib.hid hll
  clear h hb hll
  go_enter Try.func33, Try.ntmps33
  go_wp2_with fail
  go_loopw [6] (fun i wr => ∃ k : Nat, k ≤ lead x xs ∧ i = .int .i64 k ∧ Below (w.heap.size + 1) (w.alloc (.cells #[.int .i64 x, .int .i64 y, .int .i64 z] 31)) wr) (fun i _ => len - (intOf i).toNat)
  case atStart => exact ⟨0, by omega, rfl, Below.refl _ _⟩
  case round =>
    obtain ⟨k, hk, rfl, hbr⟩ := hrel
    have HR := Lib.hid hbr
    have HRW := Lib.hid (box_below w _ wr hbr)
    have HK := Lib.hid hk
    have hkl : k ≤ len := Nat.le_trans hk HLL.out
    obtain ⟨c0, c1, c2⟩ := box_held w x y z wr hbr
    clear hbr hk
    by_cases hgo : ∃ q, xs[k]? = some q ∧ q.a < x
    · obtain ⟨⟨a, b', c⟩, hq, ha⟩ := hgo
      have hlt : k < len := by have := (List.getElem?_eq_some_iff.1 hq).1; rw [HL.out] at this; exact this
      obtain ⟨bb, off, a', b'', c', rfl, hbl, hx, hd, h0, h1, h2⟩ := at3 H.out HRW.out hlt
      rw [hq] at hx
      injection hx with hx
      injection hx with e1 e2 e3
      subst e1 e2 e3
      have HKN := Lib.hid (lead_step hq HK.out ha)
      simp only at ha
      clear hq hd h1 h2
      go_wp2_with fail
      go_quiet (fail)
      go_wp2
      go_roundw
      case rel => exact ⟨k + 1, HKN.out, by go_num, belowB_drewN HR.out _⟩
      case measure => simp [intOf]; omega
    · have HKE : Hid (lead x xs = k) := by
        by_cases hlt : k < len
        · obtain ⟨bb, off, a', b'', c', hA, hbl, hx, hd, h0, h1, h2⟩ := at3 H.out HRW.out hlt
          exact lead_stop hx HK.out (fun hh => hgo ⟨_, hx, hh⟩)
        · have := HLL.out; have := HK.out; show lead x xs = k; omega
      have k1 : (0 : Int) ≤ (k : Int) := by omega
      have k2 : (k : Int) ≤ (cap : Int) := by omega
      have k4 : (k : Int) ≤ (len : Int) := by omega
      have k6 : (len : Int) ≤ (cap : Int) := by omega
      by_cases hlt : k < len
      case' pos =>
        obtain ⟨bb, off, a, b', c, rfl, hbl, hx, hd, h0, h1, h2⟩ := at3 H.out HRW.out hlt
        have ha : ¬ a < x := fun hh => hgo ⟨_, hx, hh⟩
        clear hx hd hgo h1 h2
        go_wp2_with fail
        go_quiet (fail)
      case' neg =>
        clear hgo
        have hge : (len : Int) ≤ (k : Int) := by omega
        have HGE := Lib.hid (show len ≤ k by omega)
        have hd : decide ((k : Int) < (len : Int)) = false := by simp; omega
        by_cases hck : cap = k
        case' pos => (have hkc := hck.symm; clear hck; subst hkc)
        all_goals
          go_wp2_with fail
          go_quiet (fail)
          clear hge hd
      all_goals
        have HD := Lib.hid (belowB_drewN HR.out nq)
        clear c0 c1 c2
        generalize wr.drewN nq = wd at HD ⊢
        have HDa := Lib.hid (HD.out.alloc (by have := HD.out.size; simp at this; omega) (.cells #[] 31))
        have HDw := Lib.hid (box_below w _ _ HDa.out)
        have O1 := Lib.hid (own_new (enc := enc3) (k := 3) wd 31 (w.heap.size + 1) (by have := HD.out.size; simpa using this) enc3_len [] #[] rfl (by simp) rfl)
        have hbs : w.heap.size + 1 ≤ (wd.alloc (.cells #[] 31)).heap.size := by have := HDa.out.size; simpa using this
        have HBS := Lib.hid hbs
        have m1 : (([] : List T3).length + k) * 24 ≤ 140737488355328 ∧ ([] : List T3).length + k ≤ maxLen := ⟨by simp; omega, by simp [maxLen]; omega⟩
        have m2 : (([] ++ xs.take k).length + 1) * 24 ≤ 140737488355328 ∧ ([] ++ xs.take k).length + 1 ≤ maxLen := by
          have := List.length_take_le k xs
          rw [List.nil_append]; exact ⟨by omega, by unfold maxLen; omega⟩
        have m3 : (([] ++ xs.take k ++ [(⟨x, y, z⟩ : T3)]).length + (len - k)) * 24 ≤ 140737488355328 ∧ ([] ++ xs.take k ++ [(⟨x, y, z⟩ : T3)]).length + (len - k) ≤ maxLen := by
          have := List.length_take_le k xs
          rw [List.nil_append, List.length_append, List.length_singleton]; exact ⟨by omega, by unfold maxLen; omega⟩
        have M1 := Lib.hid m1
        have M2 := Lib.hid m2
        have M3 := Lib.hid m3
        clear m1 m2 m3 hbs
        go_wp2_with (first
          | (at_builtin; refine wpList_cat (bytes := 24) (base := w.heap.size + 1) enc3_len enc3_one (by omega) rfl _ _ _ rfl Try.underlying23 info_conG rfl _ [] rfl O1.out rfl (SlE.take (H.out.below HDw.out) hkl) M1.out.1 M1.out.2 HBS.out ?_; intro v2 w2 hown2 hg2; have HB2 := Lib.hid (HDa.out.grown hg2 HBS.out (fun j hj => (O1.out.lt j hj).1)); have O2 := Lib.hid hown2; have HS2 := Lib.hid (Nat.le_trans HBS.out hg2.size); obtain ⟨d0, d1, d2⟩ := box_held w x y z w2 HB2.out; clear hown2 hg2)
          | (at_builtin; refine wpList_push 3 24 31 enc3 enc3_len enc3_one (by omega) ⟨x, y, z⟩ _ _ rfl rfl _ _ _ rfl Try.underlying23 info_conG rfl (w.heap.size + 1) _ _ rfl rfl rfl O2.out M2.out.1 M2.out.2 HS2.out ?_; intro v3 w3 hown3 hg3; have HB3 := Lib.hid (HB2.out.grown hg3 HS2.out (fun j hj => (O2.out.lt j hj).1)); have O3 := Lib.hid hown3; have HS3 := Lib.hid (Nat.le_trans HS2.out hg3.size); clear hown3 hg3)
          | (at_builtin; refine wpList_cat (bytes := 24) (base := w.heap.size + 1) enc3_len enc3_one (by omega) rfl _ _ _ rfl Try.underlying23 info_conG rfl _ _ rfl O3.out rfl (slE_dropEnd (H.out.below (box_below w _ _ HB3.out)) HGE.out) M3.out.1 M3.out.2 HS3.out ?_; intro v4 w4 hown4 hg4; have HB4 := Lib.hid (box_below w _ _ (HB3.out.grown hg4 HS3.out (fun j hj => (O3.out.lt j hj).1))); have O4 := Lib.hid hown4; clear hown4 hg4)
          | (at_builtin; refine wpList_cat (bytes := 24) (base := w.heap.size + 1) enc3_len enc3_one (by omega) rfl _ _ _ rfl Try.underlying23 info_conG rfl _ _ rfl O3.out rfl (slE_dropNil (H.out.below (box_below w _ _ HB3.out)) HGE.out) (by have := M3.out.1; omega) (by have := M3.out.2; omega) HS3.out ?_; intro v4 w4 hown4 hg4; have HB4 := Lib.hid (box_below w _ _ (HB3.out.grown hg4 HS3.out (fun j hj => (O3.out.lt j hj).1))); have O4 := Lib.hid hown4; clear hown4 hg4)
          | (at_builtin; refine wpList_cat (bytes := 24) (base := w.heap.size + 1) enc3_len enc3_one (by omega) rfl _ _ _ rfl Try.underlying23 info_conG rfl _ _ rfl O3.out rfl (slE_dropAt (H.out.below (box_below w _ _ HB3.out)) hkl) M3.out.1 M3.out.2 HS3.out ?_; intro v4 w4 hown4 hg4; have HB4 := Lib.hid (box_below w _ _ (HB3.out.grown hg4 HS3.out (fun j hj => (O3.out.lt j hj).1))); have O4 := Lib.hid hown4; clear hown4 hg4))
        have hown5 := O4.out.base_le (base' := w.heap.size) (Nat.le_succ _)
        have e5 : [] ++ xs.take k ++ [(⟨x, y, z⟩ : T3)] ++ xs.drop k = ins xs ⟨x, y, z⟩ := by unfold ins; rw [HKE.out, List.nil_append]
        rw [e5] at hown5
        obtain ⟨A2, c2, rfl, hs2⟩ := hown5.sl enc3_len
        have HS5 := Lib.hid hs2
        have HO5 := Lib.hid hown5
        have hl3 : (ins xs (⟨x, y, z⟩ : T3)).length ≤ 1048578 := by rw [ins_len, HL.out]; omega
        clear hs2 hown5 e5
        generalize (ins xs (⟨x, y, z⟩ : T3)).length = len3 at *
        by_cases hx : GatesOk xs
        · have HX := Lib.hid hx
          clear hx
          go_wp2_with fail
          refine (specGatesValid_any _ len _ xs _ (H.out.below HB4.out) (by omega)).mono ?_
          intro e w5 hp
          obtain ⟨rfl, hb5⟩ := hp.yes HX.out
          have HB5 := Lib.hid (below_trans HB4.out hb5)
          have HS6 := Lib.hid (HS5.out.below hb5)
          have HO6 := Lib.hid (HO5.out.below hb5 (Nat.le_refl _))
          clear hb5 hp
          by_cases hz : GatesOk (ins xs ⟨x, y, z⟩)
          · obtain ⟨rfl, rfl⟩ : b = true ∧ ys = ins xs ⟨x, y, z⟩ := by
              rcases HB.out with ⟨rfl, _, rfl⟩ | ⟨_, hJ, _⟩
              · exact ⟨rfl, rfl⟩
              · exact absurd ⟨HX.out, hz⟩ hJ
            have HZ := Lib.hid hz
            clear hz
            go_wp2_with fail
            refine (specGatesValid_any A2 len3 c2 _ w5 HS6.out (by omega)).mono ?_
            intro e w6 hp
            obtain ⟨rfl, hb6⟩ := hp.yes HZ.out
            have HB6 := Lib.hid (below_trans HB5.out hb6)
            have HO7 := Lib.hid (HO6.out.below hb6 (Nat.le_refl _))
            clear hb6 hp
            go_wp2
            go_ret2
            exact ⟨_, rfl, HO7.out, HB6.out⟩
          · obtain ⟨rfl, rfl⟩ : b = false ∧ ys = [] := by
              rcases HB.out with ⟨_, hJ, _⟩ | ⟨rfl, _, rfl⟩
              · exact absurd hJ.2 hz
              · exact ⟨rfl, rfl⟩
            have HZ := Lib.hid hz
            clear hz
            go_wp2_with fail
            refine (specGatesValid_any A2 len3 c2 _ w5 HS6.out (by omega)).mono ?_
            intro e w6 hp
            obtain ⟨rfl, hb6⟩ := hp.no HZ.out
            have HB6 := Lib.hid (below_trans HB5.out hb6)
            clear hb6 hp
            go_wp2
            go_ret2
            exact ⟨_, rfl, own_new w6 _ _ HB6.out.size enc3_len [] #[] rfl (by simp) rfl, below_alloc HB6.out _⟩
        · obtain ⟨rfl, rfl⟩ : b = false ∧ ys = [] := by
            rcases HB.out with ⟨_, hJ, _⟩ | ⟨rfl, _, rfl⟩
            · exact absurd hJ.1 hx
            · exact ⟨rfl, rfl⟩
          go_wp2_with fail
          refine (specGatesValid_any _ len _ xs _ (H.out.below HB4.out) (by omega)).mono ?_
          intro e w5 hp
          obtain ⟨rfl, hb5⟩ := hp.no hx
          have HB5 := Lib.hid (below_trans HB4.out hb5)
          clear hb5 hp
          go_wp2
          go_ret2
          exact ⟨_, rfl, own_new w5 _ _ HB5.out.size enc3_len [] #[] rfl (by simp) rfl, below_alloc HB5.out _⟩

theorem concat3_any (wd : World) (A A' : Option Addr) (k1 c1 k3 c3 : Nat) (xs1 xs3 : List T3) (x y z : Int) (h1 : SlE 3 enc3 wd A k1 xs1) (h3 : SlE 3 enc3 wd A' k3 xs3) (hl : k1 + 1 + k3 ≤ 4194304) (g b : Nat) (hg : g = wd.heap.size + 1) (hb : b = wd.heap.size) :
    Calls Try.prog 49 #[.slice (some ⟨g, 0, none⟩) 3 3] ((wd.alloc (.cells #[.int .i64 x, .int .i64 y, .int .i64 z] 31)).alloc (.cells #[.slice A k1 c1, .slice (some ⟨b, 0, none⟩) 1 1, .slice A' k3 c3] 23)).drew
      (RetOwn 3 enc3 31 (xs1 ++ [⟨x, y, z⟩] ++ xs3) ((wd.alloc (.cells #[.int .i64 x, .int .i64 y, .int .i64 z] 31)).alloc (.cells #[.slice A k1 c1, .slice (some ⟨b, 0, none⟩) 1 1, .slice A' k3 c3] 23)).drew) := by
  subst hg hb
  have hs := slS_new (k := 3) (enc := enc3) (w := wd.alloc (.cells #[.int .i64 x, .int .i64 y, .int .i64 z] 31)) [⟨A, k1, c1, xs1⟩, ⟨some ⟨wd.heap.size, 0, none⟩, 1, 1, [⟨x, y, z⟩]⟩, ⟨A', k3, c3, xs3⟩]
    #[.slice A k1 c1, .slice (some ⟨wd.heap.size, 0, none⟩) 1 1, .slice A' k3 c3] 23 rfl (m := 3) rfl (by
      intro s hs
      simp only [List.mem_cons, List.not_mem_nil, or_false] at hs
      rcases hs with rfl | rfl | rfl
      · exact h1.alloc _
      · exact slE_new wd _ enc3_len [⟨x, y, z⟩] #[.int .i64 x, .int .i64 y, .int .i64 z] rfl (by simp [maxLen]) rfl rfl
      · exact h3.alloc _)
  have hz : (wd.alloc (.cells #[.int .i64 x, .int .i64 y, .int .i64 z] 31)).heap.size = wd.heap.size + 1 := by simp
  rw [hz] at hs
  have ea : snAll [(⟨A, k1, c1, xs1⟩ : Sn T3), ⟨some ⟨wd.heap.size, 0, none⟩, 1, 1, [⟨x, y, z⟩]⟩, ⟨A', k3, c3, xs3⟩] = xs1 ++ [⟨x, y, z⟩] ++ xs3 := by simp [snAll]
  rw [← ea]
  exact concatG_any (SlS.below hs (Below.refl _ _).drew) (by omega) (by simp [snLen]; omega)

set_option maxRecDepth 20000 in
set_option maxHeartbeats 3200000 in
theorem implGatesAdd_any (A : Option Addr) (len cap : Nat) (xs : List T3) (x y z : Int) (ys : List T3) (b : Bool) (w : World) (h : SlE 3 enc3 w A len xs) (hn : len ≤ 1048577) (hlc : len ≤ cap)
    (hb : (b = true ∧ AddOk xs ⟨x, y, z⟩ ∧ ys = ins xs ⟨x, y, z⟩) ∨ (b = false ∧ ¬ AddOk xs ⟨x, y, z⟩ ∧ ys = [])) :
    Calls Try.prog 16 #[.slice A len cap, .agg #[.int .i64 x, .int .i64 y, .int .i64 z]] w (RetOwnB 3 enc3 31 ys b w) := by
  have H := Lib.hid h
  have HB := Lib.hid hb
  have HL := Lib.hid h.len
  have hll := lead_le x xs
  rw [h.len] at hll
  have HLL := Lib.hid hll
  clear h hb hll
  by_cases hx : GatesOk xs
  rotate_left
  · obtain ⟨rfl, rfl⟩ : b = false ∧ ys = [] := by
      rcases HB.out with ⟨_, hJ, _⟩ | ⟨rfl, _, rfl⟩
      · exact absurd hJ.1 hx
      · exact ⟨rfl, rfl⟩
    have HX := Lib.hid hx
    clear hx
    go_enter Try.func16, Try.ntmps16
    go_wp2_with fail
    refine (implGatesValid_any A len cap xs _ (H.out.alloc _) (by omega)).mono ?_
    intro e w1 hp
    obtain ⟨rfl, hb1⟩ := hp.no HX.out
    have HB1 := Lib.hid (below_trans (below_alloc (Below.refl _ w) _) hb1)
    clear hb1 hp
    go_wp2
    go_ret2
    exact ⟨_, rfl, own_new w1 _ _ HB1.out.size enc3_len [] #[] rfl (by simp) rfl, below_alloc HB1.out _⟩
  have HX := Lib.hid hx
  clear hx
  go_enter Try.func16, Try.ntmps16
  go_wp2_with fail
  refine (implGatesValid_any A len cap xs _ (H.out.alloc _) (by omega)).mono ?_
  intro e w1 hp
  obtain ⟨rfl, hb1⟩ := hp.yes HX.out
  have HB1 : Hid (Below (w.heap.size + 1) (w.alloc (.cells #[.int .i64 x, .int .i64 y, .int .i64 z] 31)) w1) := by have := hb1; simp at this; exact this
  clear hb1 hp
  go_wp2_with fail
  go_loopw [6] (fun i wr => ∃ k : Nat, k ≤ lead x xs ∧ i = .int .i64 k ∧ Below (w.heap.size + 1) (w.alloc (.cells #[.int .i64 x, .int .i64 y, .int .i64 z] 31)) wr) (fun i _ => len - (intOf i).toNat)
  case atStart => exact ⟨0, by omega, rfl, HB1.out⟩
  case round =>
    obtain ⟨k, hk, rfl, hbr⟩ := hrel
    have HR := Lib.hid hbr
    have HRW := Lib.hid (box_below w _ wr hbr)
    have HK := Lib.hid hk
    have hkl : k ≤ len := Nat.le_trans hk HLL.out
    obtain ⟨c0, c1, c2⟩ := box_held w x y z wr hbr
    clear hbr hk
    by_cases hgo : ∃ q, xs[k]? = some q ∧ q.a < x
    · obtain ⟨⟨a, b', c⟩, hq, ha⟩ := hgo
      have hlt : k < len := by have := (List.getElem?_eq_some_iff.1 hq).1; rw [HL.out] at this; exact this
      obtain ⟨bb, off, a', b'', c', rfl, hbl, hx, hd, h0, h1, h2⟩ := at3 H.out HRW.out hlt
      rw [hq] at hx
      injection hx with hx
      injection hx with e1 e2 e3
      subst e1 e2 e3
      have HKN := Lib.hid (lead_step hq HK.out ha)
      simp only at ha
      clear hq hd h1 h2
      go_wp2_with fail
      go_quiet (fail)
      go_wp2
      go_roundw
      case rel => exact ⟨k + 1, HKN.out, by go_num, belowB_drewN HR.out _⟩
      case measure => simp [intOf]; omega
    · have HKE : Hid (lead x xs = k) := by
        by_cases hlt : k < len
        · obtain ⟨bb, off, a', b'', c', hA, hbl, hx, hd, h0, h1, h2⟩ := at3 H.out HRW.out hlt
          exact lead_stop hx HK.out (fun hh => hgo ⟨_, hx, hh⟩)
        · have := HLL.out; have := HK.out; show lead x xs = k; omega
      have k1 : (0 : Int) ≤ (k : Int) := by omega
      have k2 : (k : Int) ≤ (cap : Int) := by omega
      have k4 : (k : Int) ≤ (len : Int) := by omega
      have k6 : (len : Int) ≤ (cap : Int) := by omega
      by_cases hlt : k < len
      case' pos =>
        obtain ⟨bb, off, a, b', c, rfl, hbl, hx, hd, h0, h1, h2⟩ := at3 H.out HRW.out hlt
        have ha : ¬ a < x := fun hh => hgo ⟨_, hx, hh⟩
        clear hx hd hgo h1 h2
        go_wp2_with fail
        go_quiet (fail)
      case' neg =>
        clear hgo
        have hge : (len : Int) ≤ (k : Int) := by omega
        have HGE := Lib.hid (show len ≤ k by omega)
        have hd : decide ((k : Int) < (len : Int)) = false := by simp; omega
        by_cases hck : cap = k
        case' pos => (have hkc := hck.symm; clear hck; subst hkc)
        all_goals
          go_wp2_with fail
          go_quiet (fail)
          clear hge hd
      all_goals
        have HD := Lib.hid (belowB_drewN HR.out nq)
        clear c0 c1 c2
        generalize wr.drewN nq = wd at HD ⊢
        obtain ⟨d0, d1, d2⟩ := box_held w x y z wd HD.out
        have hzd : w.heap.size + 1 ≤ wd.heap.size := by have := HD.out.size; simpa using this
        have HDw := Lib.hid (box_below w _ _ HD.out)
        have Q0 := Lib.hid (box_held w x y z wd.drew HD.out.drew)
        have Q1 := Lib.hid (fun o => box_held w x y z (wd.alloc o).drew (HD.out.alloc hzd o).drew)
        have Q2 := Lib.hid (fun o o' => box_held w x y z ((wd.alloc o).alloc o').drew ((HD.out.alloc hzd o).alloc (by simp; omega) o').drew)
        have Q3 := Lib.hid (fun o o' => box_below w _ ((wd.alloc o).alloc o').drew ((HD.out.alloc hzd o).alloc (by simp; omega) o').drew)
        have Q5 := Lib.hid (fun o o' => And.intro ((HD.out.alloc hzd o).alloc (by simp; omega) o').drew (show w.heap.size + 1 ≤ ((wd.alloc o).alloc o').drew.heap.size by simp; omega))
        have S1 := Lib.hid (SlE.take (H.out.below HDw.out) hkl)
        have N1 := Lib.hid (show k + 1 + (len - k) ≤ 4194304 by omega)
        have N0 := Lib.hid (show k + 1 + 0 ≤ 4194304 by omega)
        clear d0 d1 d2
        go_wp2_with fail
        go_region_held3 (fun W => W.cell? ⟨w.heap.size, 0, none⟩ = some (.int .i64 x) ∧ W.cell? ⟨w.heap.size, 1, none⟩ = some (.int .i64 y) ∧ W.cell? ⟨w.heap.size, 2, none⟩ = some (.int .i64 z))
          (first | exact Q0.out | exact Q1.out _ | exact Q2.out _ _ | exact Q4.out | fail)
          (first
            | (go_at_call 49; (first
                | refine (concat3_any wd _ _ _ _ _ _ (xs.take k) (xs.drop k) x y z S1.out (slE_dropAt (H.out.below HDw.out) hkl) N1.out _ _ rfl rfl).mono ?_
                | refine (concat3_any wd _ _ _ _ _ _ (xs.take k) (xs.drop k) x y z S1.out (slE_cutAt (H.out.below HDw.out) hkl hlc) N1.out _ _ rfl rfl).mono ?_
                | refine (concat3_any wd _ _ _ _ _ _ (xs.take k) (xs.drop k) x y z S1.out (slE_dropEnd (H.out.below HDw.out) HGE.out) N1.out _ _ rfl rfl).mono ?_
                | refine (concat3_any wd _ _ _ _ _ _ (xs.take k) (xs.drop k) x y z S1.out (slE_dropNil (H.out.below HDw.out) HGE.out) N0.out _ _ rfl rfl).mono ?_
                | fail); rintro e w4 ⟨v4, rfl, hown4, hb4⟩; have HB4 := Lib.hid (below_trans (Q3.out _ _) hb4); have O4 := Lib.hid hown4; have Q4 := Lib.hid (box_held w x y z w4 ((Q5.out _ _).1.trans (hb4.mono (Q5.out _ _).2))); clear hown4 hb4))
        all_goals
          have hown5 := O4.out.base_le (base' := w.heap.size) (by have := (Q3.out (.cells #[] 0) (.cells #[] 0)).size; simp at this ⊢; omega)
          have e5 : xs.take k ++ [(⟨x, y, z⟩ : T3)] ++ xs.drop k = ins xs ⟨x, y, z⟩ := by unfold ins; rw [HKE.out]
          rw [e5] at hown5
          obtain ⟨A2, c2, rfl, hs2⟩ := hown5.sl enc3_len
          have HS5 := Lib.hid hs2
          have HO5 := Lib.hid hown5
          have hl3 : (ins xs (⟨x, y, z⟩ : T3)).length ≤ 1048578 := by rw [ins_len, HL.out]; omega
          clear hs2 hown5 e5
          generalize (ins xs (⟨x, y, z⟩ : T3)).length = len3 at *
          by_cases hz : GatesOk (ins xs ⟨x, y, z⟩)
          · obtain ⟨rfl, rfl⟩ : b = true ∧ ys = ins xs ⟨x, y, z⟩ := by
              rcases HB.out with ⟨rfl, _, rfl⟩ | ⟨_, hJ, _⟩
              · exact ⟨rfl, rfl⟩
              · exact absurd ⟨HX.out, hz⟩ hJ
            have HZ := Lib.hid hz
            clear hz
            go_wp2_with fail
            refine (implGatesValid_any A2 len3 c2 _ _ HS5.out (by omega)).mono ?_
            intro e w6 hp
            obtain ⟨rfl, hb6⟩ := hp.yes HZ.out
            have HB6 := Lib.hid (below_trans HB4.out hb6)
            have HO7 := Lib.hid (HO5.out.below hb6 (Nat.le_refl _))
            clear hb6 hp
            go_wp2
            go_ret2
            exact ⟨_, rfl, HO7.out, HB6.out⟩
          · obtain ⟨rfl, rfl⟩ : b = false ∧ ys = [] := by
              rcases HB.out with ⟨_, hJ, _⟩ | ⟨rfl, _, rfl⟩
              · exact absurd hJ.2 hz
              · exact ⟨rfl, rfl⟩
            have HZ := Lib.hid hz
            clear hz
            go_wp2_with fail
            refine (implGatesValid_any A2 len3 c2 _ _ HS5.out (by omega)).mono ?_
            intro e w6 hp
            obtain ⟨rfl, hb6⟩ := hp.no HZ.out
            have HB6 := Lib.hid (below_trans HB4.out hb6)
            clear hb6 hp
            go_wp2
            go_ret2
            exact ⟨_, rfl, own_new w6 _ _ HB6.out.size enc3_len [] #[] rfl (by simp) rfl, below_alloc HB6.out _⟩
end Go.Proofs.Ytngbpdijempkpaa
