/- Texts of mine in one: RWalkB. -/
import Derived.Test.YtgjllminidlolaaGreatDoorVAE
import Derived.Test.YtgjllminidlolaaGreatDoorVAA
import Derived.Test.YtgjllminidlolaaGreatDoorVAD
import Derived.Deep.RegionHeld3
import Derived.Deep.Light
import Derived.Deep.CutRange
/- Contracts: roads of the reference: where a road lies, distances. -/
set_option linter.unusedVariables false
namespace Go.Proofs.YtgjllminidlolaaGreatDoor
open Go.RowKit

theorem fndK_app (p : T3) (lo hi : Int) : ∀ (xs : List T3) (k : Int), (∀ q ∈ xs, ¬ (q.a = lo ∧ q.b = hi)) → ∀ ys, fndK (xs ++ ys) lo hi k = fndK ys lo hi (k + xs.length)
  | [], k, _, ys => by simp
  | x :: xs, k, h, ys => by
    rw [List.cons_append, fndK, if_neg (h x (List.mem_cons_self ..)), fndK_app p lo hi xs (k + 1) (fun q hq => h q (List.mem_cons_of_mem _ hq)) ys, List.length_cons]
    congr 1
    omega
theorem twin_mem {xs : List T3} {j : Nat} {lo hi : Int} (h : NoTwin xs j lo hi) : ∀ q ∈ xs.take j, ¬ (q.a = lo ∧ q.b = hi) := fun q hq => by
  obtain ⟨i, hi⟩ := List.getElem?_of_mem hq
  rw [List.getElem?_take] at hi
  split at hi
  · exact h i q (by assumption) hi
  · cases hi
theorem fndK_hit {xs : List T3} {j : Nat} {p : T3} {lo hi : Int} (h : NoTwin xs j lo hi) (hp : xs[j]? = some p) (he : p.a = lo ∧ p.b = hi) : fndK xs lo hi 0 = j := by
  have hj := (List.getElem?_eq_some_iff.1 hp).1
  have hl : (xs.take j).length = j := by rw [List.length_take]; omega
  have e : xs = xs.take j ++ p :: xs.drop (j + 1) := by
    have h1 := (List.take_append_drop j xs).symm
    rw [List.drop_eq_getElem_cons hj, (List.getElem?_eq_some_iff.1 hp).2] at h1
    exact h1
  rw [e, fndK_app p lo hi _ _ (twin_mem h), fndK, if_pos he, hl]
  omega
theorem fndK_miss {xs : List T3} {lo hi : Int} (h : NoTwin xs xs.length lo hi) : fndK xs lo hi 0 = -1 := by
  have h1 := twin_mem h
  rw [List.take_length] at h1
  have := fndK_app ⟨0, 0, 0⟩ lo hi xs 0 h1 []
  rw [List.append_nil] at this
  rw [this, fndK]

set_option maxRecDepth 20000 in
set_option maxHeartbeats 3200000 in
theorem l1Find_lt (A : Option Addr) (a c : Int) (len cap : Nat) (xs : List T3) (w : World) (h : SlE 3 enc3 w A len xs) (hn : len ≤ 16777216) (hac : a < c) :
    Calls Tryz.prog 56 #[.slice A len cap, .int .i64 a, .int .i64 c] w (Only (.int .i64 (fndK xs a c 0)) w) := by
  have H := Lib.hid h
  have hxl := h.len
  have HL := Lib.hid hxl
  clear h hxl
  have hca : ¬ c < a := by omega
  go_enter Tryz.func56, Tryz.ntmps56
  go_wp2_with fail
  go_loopw [7] (fun i wr => ∃ k : Nat, k ≤ len ∧ i = .int .i64 k ∧ NoTwin xs k a c ∧ Below w.heap.size w wr) (fun i _ => len - (intOf i).toNat)
  case atStart => exact ⟨0, by omega, rfl, twin_nil _ _ _, Below.refl _ _⟩
  case round =>
    obtain ⟨k, hk, rfl, htw, hbr⟩ := hrel
    have HT := Lib.hid htw
    have HR := Lib.hid hbr
    clear htw hbr
    by_cases hlt : k < len
    rotate_left
    · obtain rfl : k = len := by omega
      have hT := HT.out
      rw [← HL.out] at hT
      have HM := Lib.hid (fndK_miss hT)
      clear hT
      go_wp2_with fail
      go_ret
      exact ⟨ret_int HM.out.symm, HR.out⟩
    obtain ⟨b, off, x, y, z, rfl, hbl, hx, hd, g0, g1, g2⟩ := at3 H.out HR.out hlt
    have HX := Lib.hid hx
    clear hd hx
    by_cases e1 : x = a
    · have d1 : (x == a) = true := by simpa using e1
      by_cases e2 : y = c
      · have d2 : (y == c) = true := by simpa using e2
        have HM := Lib.hid (fndK_hit HT.out HX.out ⟨e1, e2⟩)
        clear e1 e2
        go_wp2_with fail
        go_ret
        exact ⟨ret_int HM.out.symm, HR.out⟩
      · have d2 : (y == c) = false := by simpa using e2
        have HTW := Lib.hid (twin_next HT.out HX.out (fun h => e2 h.2))
        clear e1 e2
        go_wp2_with fail
        go_roundw
        case rel => exact ⟨k + 1, by omega, by go_num, HTW.out, HR.out⟩
        case measure => simp [intOf]; omega
    · have d1 : (x == a) = false := by simpa using e1
      have HTW := Lib.hid (twin_next HT.out HX.out (fun h => e1 h.1))
      clear e1
      go_wp2_with fail
      go_roundw
      case rel => exact ⟨k + 1, by omega, by go_num, HTW.out, HR.out⟩
      case measure => simp [intOf]; omega
set_option maxRecDepth 20000 in
set_option maxHeartbeats 3200000 in
theorem l1Find_gt (A : Option Addr) (a c : Int) (len cap : Nat) (xs : List T3) (w : World) (h : SlE 3 enc3 w A len xs) (hn : len ≤ 16777216) (hca : c < a) :
    Calls Tryz.prog 56 #[.slice A len cap, .int .i64 a, .int .i64 c] w (Only (.int .i64 (fndK xs c a 0)) w) := by
  have H := Lib.hid h
  have hxl := h.len
  have HL := Lib.hid hxl
  clear h hxl
  have hac : ¬ a < c := by omega
  go_enter Tryz.func56, Tryz.ntmps56
  go_wp2_with fail
  go_loopw [7] (fun i wr => ∃ k : Nat, k ≤ len ∧ i = .int .i64 k ∧ NoTwin xs k c a ∧ Below w.heap.size w wr) (fun i _ => len - (intOf i).toNat)
  case atStart => exact ⟨0, by omega, rfl, twin_nil _ _ _, Below.refl _ _⟩
  case round =>
    obtain ⟨k, hk, rfl, htw, hbr⟩ := hrel
    have HT := Lib.hid htw
    have HR := Lib.hid hbr
    clear htw hbr
    by_cases hlt : k < len
    rotate_left
    · obtain rfl : k = len := by omega
      have hT := HT.out
      rw [← HL.out] at hT
      have HM := Lib.hid (fndK_miss hT)
      clear hT
      go_wp2_with fail
      go_ret
      exact ⟨ret_int HM.out.symm, HR.out⟩
    obtain ⟨b, off, x, y, z, rfl, hbl, hx, hd, g0, g1, g2⟩ := at3 H.out HR.out hlt
    have HX := Lib.hid hx
    clear hd hx
    by_cases e1 : x = c
    · have d1 : (x == c) = true := by simpa using e1
      by_cases e2 : y = a
      · have d2 : (y == a) = true := by simpa using e2
        have HM := Lib.hid (fndK_hit HT.out HX.out ⟨e1, e2⟩)
        clear e1 e2
        go_wp2_with fail
        go_ret
        exact ⟨ret_int HM.out.symm, HR.out⟩
      · have d2 : (y == a) = false := by simpa using e2
        have HTW := Lib.hid (twin_next HT.out HX.out (fun h => e2 h.2))
        clear e1 e2
        go_wp2_with fail
        go_roundw
        case rel => exact ⟨k + 1, by omega, by go_num, HTW.out, HR.out⟩
        case measure => simp [intOf]; omega
    · have d1 : (x == c) = false := by simpa using e1
      have HTW := Lib.hid (twin_next HT.out HX.out (fun h => e1 h.1))
      clear e1
      go_wp2_with fail
      go_roundw
      case rel => exact ⟨k + 1, by omega, by go_num, HTW.out, HR.out⟩
      case measure => simp [intOf]; omega
set_option maxRecDepth 20000 in
set_option maxHeartbeats 3200000 in
theorem l1Find_eq (A : Option Addr) (a : Int) (len cap : Nat) (xs : List T3) (w : World) (h : SlE 3 enc3 w A len xs) (hn : len ≤ 16777216)  :
    Calls Tryz.prog 56 #[.slice A len cap, .int .i64 a, .int .i64 a] w (Only (.int .i64 (fndK xs a a 0)) w) := by
  have H := Lib.hid h
  have hxl := h.len
  have HL := Lib.hid hxl
  clear h hxl
  have hac : ¬ a < a := by omega
  go_enter Tryz.func56, Tryz.ntmps56
  go_wp2_with fail
  go_loopw [7] (fun i wr => ∃ k : Nat, k ≤ len ∧ i = .int .i64 k ∧ NoTwin xs k a a ∧ Below w.heap.size w wr) (fun i _ => len - (intOf i).toNat)
  case atStart => exact ⟨0, by omega, rfl, twin_nil _ _ _, Below.refl _ _⟩
  case round =>
    obtain ⟨k, hk, rfl, htw, hbr⟩ := hrel
    have HT := Lib.hid htw
    have HR := Lib.hid hbr
    clear htw hbr
    by_cases hlt : k < len
    rotate_left
    · obtain rfl : k = len := by omega
      have hT := HT.out
      rw [← HL.out] at hT
      have HM := Lib.hid (fndK_miss hT)
      clear hT
      go_wp2_with fail
      go_ret
      exact ⟨ret_int HM.out.symm, HR.out⟩
    obtain ⟨b, off, x, y, z, rfl, hbl, hx, hd, g0, g1, g2⟩ := at3 H.out HR.out hlt
    have HX := Lib.hid hx
    clear hd hx
    by_cases e1 : x = a
    · have d1 : (x == a) = true := by simpa using e1
      by_cases e2 : y = a
      · have d2 : (y == a) = true := by simpa using e2
        have HM := Lib.hid (fndK_hit HT.out HX.out ⟨e1, e2⟩)
        clear e1 e2
        go_wp2_with fail
        go_ret
        exact ⟨ret_int HM.out.symm, HR.out⟩
      · have d2 : (y == a) = false := by simpa using e2
        have HTW := Lib.hid (twin_next HT.out HX.out (fun h => e2 h.2))
        clear e1 e2
        go_wp2_with fail
        go_roundw
        case rel => exact ⟨k + 1, by omega, by go_num, HTW.out, HR.out⟩
        case measure => simp [intOf]; omega
    · have d1 : (x == a) = false := by simpa using e1
      have HTW := Lib.hid (twin_next HT.out HX.out (fun h => e1 h.1))
      clear e1
      go_wp2_with fail
      go_roundw
      case rel => exact ⟨k + 1, by omega, by go_num, HTW.out, HR.out⟩
      case measure => simp [intOf]; omega
theorem l1Find_any (A : Option Addr) (a c : Int) (len cap : Nat) (xs : List T3) (w : World) (h : SlE 3 enc3 w A len xs) (hn : len ≤ 16777216) :
    Calls Tryz.prog 56 #[.slice A len cap, .int .i64 a, .int .i64 c] w (Only (.int .i64 (fndR xs a c)) w) := by
  unfold fndR
  rcases Int.lt_trichotomy a c with e | e | e
  · rw [Int.min_eq_left (by omega), Int.max_eq_right (by omega)]
    exact l1Find_lt A a c len cap xs w h hn e
  · subst e
    rw [Int.min_self, Int.max_self]
    exact l1Find_eq A a len cap xs w h hn
  · rw [Int.min_eq_right (by omega), Int.max_eq_left (by omega)]
    exact l1Find_gt A a c len cap xs w h hn e

/-- The miles of the road between two towns, or -1. -/
def dirV (xs : List T3) (a c : Int) : Int := ((xs[(fndR xs a c).toNat]?).map T3.c).getD (-1)
theorem fndR_bd (xs : List T3) (a c : Int) : -1 ≤ fndR xs a c ∧ (fndR xs a c < 0 ∨ ∃ j p, fndR xs a c = (j : Nat) ∧ xs[j]? = some p) := by
  rcases fnd_gen xs (min a c) (max a c) 0 with ⟨h1, h2⟩ | ⟨j, p, h1, h2, h3, h4, h5⟩
  · unfold fndR
    rw [show (0 : Int) = ((0 : Nat) : Int) from rfl, h1]
    exact ⟨by omega, .inl (by omega)⟩
  · unfold fndR
    rw [show (0 : Int) = ((0 : Nat) : Int) from rfl, h1]
    exact ⟨by omega, .inr ⟨j, p, by rw [Nat.zero_add], h2⟩⟩
open Classical in
noncomputable def directV (n : Int) (xs : List T3) (a c : Int) : Int := if RoadOk n xs ∧ 0 ≤ fndR xs a c then dirV xs a c else -1

set_option maxRecDepth 20000 in
set_option maxHeartbeats 3200000 in
theorem specRoadsDirect_any (A : Option Addr) (n a c : Int) (len cap : Nat) (xs : List T3) (w : World) (h : SlE 3 enc3 w A len xs) (hn : len ≤ 16777216) (h1 : -1000000 ≤ n) (h2 : n ≤ 1000000) :
    Calls Tryz.prog 109 #[.int .i64 n, .slice A len cap, .int .i64 a, .int .i64 c] w (Only (.int .i64 (directV n xs a c)) w) := by
  have H := Lib.hid h
  clear h
  obtain ⟨v, hv⟩ : ∃ v, directV n xs a c = v := ⟨_, rfl⟩
  rw [hv]
  have HV := Lib.hid hv
  clear hv
  obtain ⟨f0, hf⟩ := fndR_bd xs a c
  have HF := Lib.hid hf
  clear hf
  obtain ⟨k, hk⟩ : ∃ k, fndR xs a c = k := ⟨_, rfl⟩
  rw [hk] at f0
  have HK := Lib.hid hk
  clear hk
  go_enter Tryz.func109, Tryz.ntmps109
  go_wp2_with fail
  refine (l1Find_any A a c len cap xs w H.out hn).mono ?_
  rw [HK.out]
  rintro e w1 ⟨rfl, hb1⟩
  have HB1 := Lib.hid hb1
  clear hb1
  go_wp2_with fail
  refine (specRoadsValid_any A n len cap xs w1 (H.out.below HB1.out) hn h1 h2).mono ?_
  intro e w2 hp
  rcases hp.cases with ⟨rfl, hok, hb2⟩ | ⟨rfl, hok, hb2⟩
  · have HOK := Lib.hid hok
    have HB2 := Lib.hid (below_trans HB1.out hb2)
    clear hp hok hb2
    by_cases hneg : k < 0
    · have hm : v = -1 := by
        rw [← HV.out]
        unfold directV
        rw [if_neg (fun h => by have := h.2; rw [HK.out] at this; omega)]
      clear f0
      go_wp2_with fail
      go_ret
      exact ⟨ret_int hm.symm, HB2.out⟩
    · obtain ⟨j, p, hj, hpj⟩ : ∃ j p, fndR xs a c = (j : Nat) ∧ xs[j]? = some p := by
        rcases HF.out with h | h
        · rw [HK.out] at h; exact absurd h hneg
        · exact h
      have hm : v = p.c := by
        rw [← HV.out]
        unfold directV dirV
        rw [if_pos ⟨HOK.out, by rw [hj]; omega⟩, hj, Int.toNat_natCast, hpj]
        rfl
      have HM := Lib.hid hm
      obtain rfl : k = j := by rw [← HK.out, hj]
      have hjl : j < len := by rw [← H.out.len]; exact (List.getElem?_eq_some_iff.1 hpj).1
      obtain ⟨b, off, x, y, z, rfl, hbl, hx, hd, g0, g1, g2⟩ := at3 H.out HB2.out hjl
      have hz : p.c = z := by rw [hpj] at hx; have := Option.some.inj hx; rw [this]
      have HZ := Lib.hid hz
      clear hd hx hz hm hj hpj
      go_wp2_with fail
      go_ret
      exact ⟨ret_int (by rw [HM.out, HZ.out]), HB2.out⟩
  · have hm : v = -1 := by
      rw [← HV.out]
      unfold directV
      rw [if_neg (fun h => hok h.1)]
    have HM := Lib.hid hm
    have HB2 := Lib.hid (below_trans HB1.out hb2)
    clear hp hok hb2 hm
    go_wp2_with fail
    go_ret
    exact ⟨ret_int HM.out.symm, HB2.out⟩

/-! ### Distances -/
def relA (f : Int → Int) (p : T3) : Int → Int := updI f p.a (min (f p.a) (f p.b + p.c))
theorem relax_two (f : Int → Int) (p : T3) : relax1 f p = updI (relA f p) p.b (min (relA f p p.b) (relA f p p.a + p.c)) := by
  funext t
  unfold relax1 relA updI
  by_cases h1 : t = p.b
  · rw [if_pos h1, if_pos h1, if_pos rfl]
  · rw [if_neg h1, if_neg h1]
theorem fold_next {xs : List T3} {k : Nat} {p : T3} (h : xs[k]? = some p) (f : Int → Int) : (xs.take (k + 1)).foldl relax1 f = relax1 ((xs.take k).foldl relax1 f) p := by
  rw [take_next h, List.foldl_append]
  rfl
theorem snd_bdF {xs : List T3} {s : Int} {f : Int → Int} (h : Snd xs s f) (t : Int) : 0 ≤ f t ∧ f t ≤ 100000 := ⟨(h t).2.2, (h t).1⟩

/-- One number of a table is put, ahead of a box. -/
theorem far_mid {n u v g c0 : Nat} {G : Int → Int} {m : Int} {w wr : World} (h : OwnE 1 encI 3 w.heap.size wr (.slice (some ⟨g, 0, none⟩) n c0) (tblL n G)) (hb : Below w.heap.size w wr) (hu : u < n) (hv : v < n) (huv : v ≠ u) (z : Int) :
    OwnE 1 encI 3 w.heap.size ((wr.setCell ⟨g, u, none⟩ (.int .i64 m)).alloc (.cells #[.int .i64 (u : Int), .int .i64 (v : Int), .int .i64 z] 43)) (.slice (some ⟨g, 0, none⟩) n c0) (tblL n (updI G u m)) ∧
    Below w.heap.size w ((wr.setCell ⟨g, u, none⟩ (.int .i64 m)).alloc (.cells #[.int .i64 (u : Int), .int .i64 (v : Int), .int .i64 z] 43)) ∧
    ((wr.setCell ⟨g, u, none⟩ (.int .i64 m)).alloc (.cells #[.int .i64 (u : Int), .int .i64 (v : Int), .int .i64 z] 43)).cell? ⟨g, u, none⟩ = some (.int .i64 m) ∧
    ((wr.setCell ⟨g, u, none⟩ (.int .i64 m)).alloc (.cells #[.int .i64 (u : Int), .int .i64 (v : Int), .int .i64 z] 43)).cell? ⟨g, v, none⟩ = some (.int .i64 (G v)) ∧
    ((wr.setCell ⟨g, u, none⟩ (.int .i64 m)).alloc (.cells #[.int .i64 (u : Int), .int .i64 (v : Int), .int .i64 z] 43)).cell? ⟨wr.heap.size, 0, none⟩ = some (.int .i64 u) ∧
    ((wr.setCell ⟨g, u, none⟩ (.int .i64 m)).alloc (.cells #[.int .i64 (u : Int), .int .i64 (v : Int), .int .i64 z] 43)).cell? ⟨wr.heap.size, 1, none⟩ = some (.int .i64 v) ∧
    ((wr.setCell ⟨g, u, none⟩ (.int .i64 m)).alloc (.cells #[.int .i64 (u : Int), .int .i64 (v : Int), .int .i64 z] 43)).cell? ⟨wr.heap.size, 2, none⟩ = some (.int .i64 z) ∧
    ∀ j, ((wr.setCell ⟨g, u, none⟩ (.int .i64 m)).alloc (.cells #[.int .i64 (u : Int), .int .i64 (v : Int), .int .i64 z] 43)).frozen? ⟨g, j, none⟩ = false := by
  have h1 := own1_set h (tblL_len n G) u m
  rw [tblL_set] at h1
  have hb1 := hb.grown h1.2 hb.size (fun j hj => (h.lt j hj).1)
  have h2 := h1.1.alloc (.cells #[.int .i64 (u : Int), .int .i64 (v : Int), .int .i64 z] 43)
  have hs : (wr.setCell ⟨g, u, none⟩ (.int .i64 m)).heap.size = wr.heap.size := by simp [World.setCell]
  have hr : ∀ j, ((wr.setCell ⟨g, u, none⟩ (.int .i64 m)).alloc (.cells #[.int .i64 (u : Int), .int .i64 (v : Int), .int .i64 z] 43)).cell? ⟨wr.heap.size, j, none⟩ = (#[.int .i64 (u : Int), .int .i64 (v : Int), .int .i64 z] : Array Value)[j]? := fun j => by
    have := cell_of_row ((wr.setCell ⟨g, u, none⟩ (.int .i64 m)).alloc (.cells #[.int .i64 (u : Int), .int .i64 (v : Int), .int .i64 z] 43)) _ j _ 43 (0, 0) (heap_alloc_new (wr.setCell ⟨g, u, none⟩ (.int .i64 m)) _)
    rw [hs] at this
    exact this
  exact ⟨h2, below_alloc hb1 _, OwnE.cell1 h2 (by rw [tblL_at _ hu, updI_self]), OwnE.cell1 h2 (by rw [tblL_at _ hv, updI_ne (show (v : Int) ≠ u by omega)]), hr 0, hr 1, hr 2, fun j => h2.frozen j⟩
theorem far_mid2 {w W : World} {v : Value} {n : Nat} {f f' : Int → Int} {a b c d e : Addr} {x y : Value} {z t s : Value} {g : Nat} (hf : f' = f)
    (h : OwnE 1 encI 3 w.heap.size W v (tblL n f) ∧ Below w.heap.size w W ∧ W.cell? a = some x ∧ W.cell? b = some y ∧ W.cell? c = some z ∧ W.cell? d = some t ∧ W.cell? e = some s ∧ ∀ j, W.frozen? ⟨g, j, none⟩ = false) :
    OwnE 1 encI 3 w.heap.size W.drew v (tblL n f') ∧ Below w.heap.size w W.drew ∧ W.drew.cell? c = some z ∧ W.drew.cell? d = some t ∧ W.drew.cell? e = some s := by
  subst hf
  exact ⟨h.1, h.2.1.drew, h.2.2.2.2.1, h.2.2.2.2.2.1, h.2.2.2.2.2.2.1⟩
theorem far_put {n v g c0 : Nat} {G : Int → Int} {m : Int} {w wr : World} (h : OwnE 1 encI 3 w.heap.size wr (.slice (some ⟨g, 0, none⟩) n c0) (tblL n G)) (hb : Below w.heap.size w wr) :
    OwnE 1 encI 3 w.heap.size (wr.setCell ⟨g, v, none⟩ (.int .i64 m)) (.slice (some ⟨g, 0, none⟩) n c0) (tblL n (updI G v m)) ∧ Below w.heap.size w (wr.setCell ⟨g, v, none⟩ (.int .i64 m)) := by
  have h1 := own1_set h (tblL_len n G) v m
  rw [tblL_set] at h1
  exact ⟨h1.1, hb.grown h1.2 hb.size (fun j hj => (h.lt j hj).1)⟩

set_option maxRecDepth 20000 in
set_option maxHeartbeats 6400000 in
theorem l1Far_any (A : Option Addr) (n s : Nat) (len cap : Nat) (xs : List T3) (w : World) (h : SlE 3 enc3 w A len xs) (hn : len ≤ 16777216) (hok : RoadOk n xs) (hs : s < n) :
    Calls Tryz.prog 55 #[.int .i64 n, .slice A len cap, .int .i64 s] w (RetOwn 1 encI 3 (tblL n (rounds xs s n)) w) := by
  have H := Lib.hid h
  have HOK := Lib.hid hok
  have hn8 := hok.2.1
  have hsn := snd_rounds hok (s : Int)
  have HS := Lib.hid hsn
  clear h hok hsn
  go_enter Tryz.func55, Tryz.ntmps55
  go_wp2_with fail
  go_loopw [7, 8] (fun v i wr => ∃ k : Nat, k ≤ n ∧ i = .int .i64 k ∧ OwnE 1 encI 3 w.heap.size wr v (tblL k (fun _ => 100000)) ∧ Below w.heap.size w wr) (fun _ i _ => n - (intOf i).toNat)
  case atStart => exact ⟨0, by omega, rfl, own_new w _ _ (Nat.le_refl _) encI_len [] #[] rfl (by simp) rfl, below_alloc (Below.refl _ _) _⟩
  case round =>
    obtain ⟨k, hk, rfl, hown, hbr⟩ := hrel
    have HO := Lib.hid hown
    have HB := Lib.hid hbr
    have hsz := hbr.size
    have hl := tblL_len k (fun _ => 100000)
    have HLN := Lib.hid hl
    clear hown hbr hl
    by_cases hlt : k < n
    · have HX := Lib.hid (tblL_snoc k (fun _ => 100000))
      go_wp2_with (at_builtin; go_loud (refine wpList_push 1 8 3 encI encI_len encI_one (by omega) (100000 : Int) _ _ rfl rfl _ _ _ rfl Tryz.underlying29 info_intN rfl w.heap.size _ (tblL k (fun _ => 100000)) rfl rfl (by simp) HO.out (by rw [HLN.out]; omega) (by rw [HLN.out]; unfold maxLen; omega) (by omega) ?_); intro v' w' hown' hg'; have HO' := Lib.hid hown'; have HB' := Lib.hid (below_grown HB.out hg' HO.out (Nat.le_refl _)); clear hown' hg')
      go_roundw
      case rel => exact ⟨k + 1, by omega, by go_num, by rw [HX.out]; exact HO'.out, HB'.out⟩
      case measure => simp [intOf]; omega
    obtain rfl : n = k := by omega
    clear hlt hk
    obtain ⟨A0, c0, rfl, -, hc0⟩ := HO.out.slc encI_len HLN.out
    obtain ⟨g, rfl, -, hg0, hg1, hfz⟩ := HO.out.form (by rw [HLN.out]; omega)
    have HO1 := own1_set HO.out HLN.out s 0
    rw [tblL_set] at HO1
    have HB1 := Lib.hid (below_grown HB.out HO1.2 HO.out (Nat.le_refl _))
    have HO2 := Lib.hid HO1.1
    have hcs := OwnE.cell1 HO.out (j := s) (x := 100000) (by rw [tblL_at _ hs])
    have hfs := hfz s
    clear HO1 hfz
    go_wp2_with fail
    go_loopw [9, 10, 11] (fun r _ _ wl => ∃ k : Nat, k ≤ n ∧ r = .int .i64 k ∧ OwnE 1 encI 3 w.heap.size wl (.slice (some ⟨g, 0, none⟩) n c0) (tblL n (rounds xs s k)) ∧ Below w.heap.size w wl) (fun r _ _ _ => n - (intOf r).toNat)
    case atStart => exact ⟨0, by omega, rfl, HO2.out, HB1.out⟩
    case round =>
      obtain ⟨r, hr, rfl, hown, hbl⟩ := hrel
      have HO3 := Lib.hid hown
      have HB3 := Lib.hid hbl
      clear hown hbl HO2 HB1 HO HB hcs hfs
      by_cases hrn : r < n
      rotate_left
      · obtain rfl : n = r := by omega
        go_wp2_with fail
        go_ret
        exact ⟨_, rfl, HO3.out, HB3.out⟩
      have hsn := HS.out r
      have HSR := Lib.hid hsn
      clear hsn
      generalize hF : rounds xs s r = F at *
      have HF := Lib.hid hF
      clear hF
      go_wp2_with fail
      go_loopw [10, 11] (fun i _ wk => ∃ k : Nat, k ≤ len ∧ i = .int .i64 k ∧ OwnE 1 encI 3 w.heap.size wk (.slice (some ⟨g, 0, none⟩) n c0) (tblL n ((xs.take k).foldl relax1 F)) ∧ Below w.heap.size w wk) (fun i _ _ => len - (intOf i).toNat)
      case atStart => exact ⟨0, by omega, rfl, HO3.out, HB3.out⟩
      case round =>
        obtain ⟨k, hk, rfl, hown, hbl⟩ := hrel
        have HO4 := Lib.hid hown
        have HB4 := Lib.hid hbl
        clear hown hbl HO3 HB3
        by_cases hkl : k < len
        · obtain ⟨b, off, x, y, z, rfl, hbl, hx, hd, g0, g1, g2⟩ := at3 H.out HB4.out hkl
          have ho := HOK.out.2.2.2.1 _ (mem_at hx)
          dsimp only at ho
          have hFN := fold_next hx F
          have hSK := snd_fold (xs := xs) (xs.take k) F HSR.out (fun p hp => ⟨mem_take_of hp, (HOK.out.2.2.2.1 p (mem_take_of hp)).2.2.2.1, (HOK.out.2.2.2.1 p (mem_take_of hp)).2.1⟩)
          rw [relax_two] at hFN
          generalize (xs.take k).foldl relax1 F = G at *
          obtain ⟨u, rfl⟩ : ∃ i : Nat, x = i := ⟨x.toNat, by omega⟩
          obtain ⟨v, rfl⟩ : ∃ i : Nat, y = i := ⟨y.toNat, by omega⟩
          have bu := snd_bdF hSK (u : Int)
          have bv := snd_bdF hSK (v : Int)
          have hu : u < n := by omega
          have hv : v < n := by omega
          have hz0 : 0 ≤ z := by omega
          have hz1 : z ≤ 99 := by omega
          have hne : (v : Int) ≠ (u : Int) := by omega
          have huv : v ≠ u := by omega
          have hgw : g < wr.heap.size := (HO4.out.lt g rfl).2
          have hcu := OwnE.cell1 HO4.out (j := u) (x := G u) (by rw [tblL_at _ hu])
          have hcv := OwnE.cell1 HO4.out (j := v) (x := G v) (by rw [tblL_at _ hv])
          have hfz := fun j => HO4.out.frozen j
          have HFN := Lib.hid hFN
          have HMID := Lib.hid (fun m => far_mid (m := m) HO4.out HB4.out hu hv huv z)
          have HEND := Lib.hid (fun (W : World) (m2 : Int) (f : Int → Int) (hO : OwnE 1 encI 3 w.heap.size W (.slice (some ⟨g, 0, none⟩) n c0) (tblL n f)) (hB : Below w.heap.size w W) => far_put hO hB (v := v) (m := m2))
          clear hFN hSK hx hd ho
          generalize hgu : G u = gu at *
          generalize hgv : G v = gv at *
          have HGU := Lib.hid hgu
          have HGV := Lib.hid hgv
          obtain ⟨s1, hs1⟩ : ∃ s1, s1 = gv + z := ⟨_, rfl⟩
          have e1 : IntKind.i64.wrap (gv + z) = s1 := by rw [IntWalk.i64_in _ (by omega)]; exact hs1.symm
          have HS1 := Lib.hid hs1
          have BB := Lib.hid (And.intro bu bv)
          have b1 : 0 ≤ s1 := by omega
          have b2 : s1 ≤ 100099 := by omega
          clear hgu hgv hs1
          go_wp2_with fail
          go_cut [10] from 29 to 74 (fun i wx => i = .int .i64 k ∧ OwnE 1 encI 3 w.heap.size wx (.slice (some ⟨g, 0, none⟩) n c0) (tblL n (relA G ⟨u, v, z⟩)) ∧ Below w.heap.size w wx ∧
            wx.cell? ⟨wr.heap.size, 0, none⟩ = some (.int .i64 u) ∧ wx.cell? ⟨wr.heap.size, 1, none⟩ = some (.int .i64 v) ∧ wx.cell? ⟨wr.heap.size, 2, none⟩ = some (.int .i64 z))
          case first =>
            by_cases hm1 : s1 < gu
            · clear BB bu bv hz0 hz1
              have HREL := Lib.hid (show relA G ⟨u, v, z⟩ = updI G u s1 by unfold relA; dsimp only; rw [HGU.out, HGV.out, ← HS1.out]; congr 1; omega)
              go_region
              go_wp2_with fail
              go_meet
              case rel => exact ⟨rfl, far_mid2 HREL.out (HMID.out s1)⟩
            · clear BB bu bv hz0 hz1
              have HREL := Lib.hid (show relA G ⟨u, v, z⟩ = updI G u gu by unfold relA; dsimp only; rw [HGU.out, HGV.out, ← HS1.out]; congr 1; omega)
              go_region
              go_wp2_with fail
              go_meet
              case rel => exact ⟨rfl, far_mid2 HREL.out (HMID.out gu)⟩
          case rest =>
            obtain ⟨rfl, hO9, hB9, q2, q3, q4⟩ := hcut
            have hx2 : relA G ⟨u, v, z⟩ v = gv := by unfold relA; rw [updI_ne hne]; exact HGV.out
            have hx1 : relA G ⟨u, v, z⟩ u = min gu s1 := by unfold relA; rw [updI_self]; dsimp only; rw [HGU.out, HGV.out, ← HS1.out]
            have HO9 := Lib.hid hO9
            have HB9 := Lib.hid hB9
            clear hO9 hB9 hfz hcu hcv e1 g0 g1 g2 HO4 HB4
            generalize relA G ⟨u, v, z⟩ = G1 at hx1 hx2 HO9 HFN
            obtain ⟨m, hm⟩ : ∃ m, m = min gu s1 := ⟨_, rfl⟩
            rw [← hm] at hx1
            have m0 : 0 ≤ m := by omega
            have m1 : m ≤ 100000 := by omega
            have HRU := Lib.hid hx1
            have HRV := Lib.hid hx2
            clear hx1 hx2 hm BB bu b1 b2 HS1 HGU HGV
            have hcu := OwnE.cell1 HO9.out (j := u) (x := m) (by rw [tblL_at _ hu, HRU.out])
            have hcv := OwnE.cell1 HO9.out (j := v) (x := gv) (by rw [tblL_at _ hv, HRV.out])
            have hfz := HO9.out.frozen v
            obtain ⟨s2, hs2⟩ : ∃ s2, s2 = m + z := ⟨_, rfl⟩
            have e2 : IntKind.i64.wrap (m + z) = s2 := by rw [IntWalk.i64_in _ (by omega)]; exact hs2.symm
            have HS2 := Lib.hid hs2
            clear hs2
            by_cases hm2 : s2 < gv
            · clear m0 m1 hz0 hz1 bv
              have HF2 := Lib.hid (show (xs.take (k + 1)).foldl relax1 F = updI G1 v s2 by
                rw [HFN.out]
                try dsimp only
                rw [HRV.out, HRU.out, ← HS2.out]
                congr 1
                omega)
              have HE1 := Lib.hid (HEND.out wc s2 G1 HO9.out HB9.out)
              go_wp2_with fail
              go_region
              go_wp2_with fail
              go_roundw
              case rel => exact ⟨k + 1, by omega, by go_num, by rw [HF2.out]; exact HE1.out.1, HE1.out.2.drew⟩
              case measure => simp [intOf]; omega
            · clear m0 m1 hz0 hz1 bv
              have HF2 := Lib.hid (show (xs.take (k + 1)).foldl relax1 F = updI G1 v gv by
                rw [HFN.out]
                try dsimp only
                rw [HRV.out, HRU.out, ← HS2.out]
                congr 1
                omega)
              have HE1 := Lib.hid (HEND.out wc gv G1 HO9.out HB9.out)
              go_wp2_with fail
              go_region
              go_wp2_with fail
              go_roundw
              case rel => exact ⟨k + 1, by omega, by go_num, by rw [HF2.out]; exact HE1.out.1, HE1.out.2.drew⟩
              case measure => simp [intOf]; omega
        · obtain rfl : len = k := by omega
          have hx : xs.take len = xs := List.take_of_length_le (by rw [H.out.len]; exact Nat.le_refl _)
          rw [hx] at HO4
          clear hx
          have HRR := Lib.hid (show rounds xs s (r + 1) = xs.foldl relax1 F by rw [rounds, HF.out])
          go_wp2_with fail
          go_roundw
          case rel => exact ⟨r + 1, by omega, by go_num, by rw [HRR.out]; exact HO4.out, HB4.out⟩
          case measure => simp [intOf]; omega
end Go.Proofs.YtgjllminidlolaaGreatDoor
