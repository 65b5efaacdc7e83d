/- Texts of mine in one: RWalkQ. -/
import Derived.Test.YtgjllminidlolaaGreatDoorVAH
import Derived.Test.YtgjllminidlolaaGreatDoorVAA
/- Contracts: slices.IndexFunc over roads; RoadsClose. -/
set_option linter.unusedVariables false
namespace Go.Proofs.YtgjllminidlolaaGreatDoor
open Go.RowKit

theorem cell_below' {W W' : World} (hb : Below W.heap.size W W') {p : Addr} {v : Value} (h : W.cell? p = some v) : W'.cell? p = some v := by
  have hp := World.block_lt_of_cell? W _ h
  rw [hb.cell hp]
  exact h
def FstRet (Q : T3 → Prop) (xs : List T3) (w : World) (e : Ending) (w' : World) : Prop := ∃ v, e = .returned (.int .i64 v) ∧ IsFstI Q xs v ∧ Below w.heap.size w w'
set_option maxRecDepth 20000 in
set_option maxHeartbeats 800000 in
theorem indexRoad_any (Q : T3 → Prop) (p1 p2 : Value) (A : Option Addr) (n cap : Nat) (xs : List T3) (w : World) (h : SlE 3 enc3 w A n xs) (hn : n ≤ 16777216)
    (ht : ∀ W, Below w.heap.size w W → ∀ (j : Nat) x y z, xs[j]? = some ⟨x, y, z⟩ → Calls Tryz.prog 206 #[.agg #[.int .i64 x, .int .i64 y, .int .i64 z], p1, p2] W (OnlyB (Q ⟨x, y, z⟩) W)) :
    Calls Tryz.prog 205 #[.slice A n cap, .func (.func 206) #[] #[p1, p2]] w (FstRet Q xs w) := by
  have H := Lib.hid h
  have HT := Lib.hid ht
  clear h ht
  go_enter Tryz.func205, Tryz.ntmps205
  go_wp2
  go_loopw [8, 5] (fun i _ wr => ∃ k : Nat, k ≤ n ∧ i = .int .i64 k ∧ NotYet Q xs k ∧ Below w.heap.size w wr) (fun i _ _ => n - (intOf i).toNat)
  case atStart => exact ⟨0, by omega, rfl, notYet_nil Q xs, Below.refl _ _⟩
  case round =>
    obtain ⟨k, hk, rfl, hno, hbr⟩ := hrel
    have HR := Lib.hid hbr
    have HN := Lib.hid hno
    clear hno hbr
    by_cases hlt : k < n
    · obtain ⟨b, off, x, y, z, rfl, hbl, hx, hd, g0, g1, g2⟩ := at3 H.out HR.out hlt
      have HX := Lib.hid hx
      have HC := Lib.hid (HT.out _ HR.out k x y z hx)
      clear hx hd
      by_cases he : Q ⟨x, y, z⟩
      · have HE := Lib.hid he
        clear he
        go_wp2_with (go_at_call 206; refine HC.out.mono ?_; intro e w2 hp; obtain ⟨rfl, hb2⟩ := hp.yes HE.out; have HB2 := Lib.hid (below_trans HR.out hb2); clear hb2 hp)
        go_ret
        exact ⟨_, rfl, .inr ⟨k, _, rfl, HX.out, HE.out, HN.out⟩, HB2.out⟩
      · have HE := Lib.hid he
        clear he
        go_wp2_with (go_at_call 206; refine HC.out.mono ?_; intro e w2 hp; obtain ⟨rfl, hb2⟩ := hp.no HE.out; have HB2 := Lib.hid (below_trans HR.out hb2); clear hb2 hp)
        go_roundw
        case rel => exact ⟨k + 1, by omega, by go_num, notYet_next HN.out HX.out HE.out, HB2.out⟩
        case measure => simp [intOf]; omega
    · have HL := Lib.hid (show k = xs.length by have := H.out.len; omega)
      go_wp2
      go_ret
      exact ⟨_, rfl, .inl ⟨rfl, fun i r hr => HN.out i r (by have := (List.getElem?_eq_some_iff.1 hr).1; have := HL.out; omega) hr⟩, HR.out⟩
set_option maxRecDepth 20000 in
set_option maxHeartbeats 800000 in
theorem closeTest_lt (x y z a c : Int) (ga gb : Nat) (w : World) (ha : w.cell? ⟨ga, 0, none⟩ = some (.int .i64 a)) (hb : w.cell? ⟨gb, 0, none⟩ = some (.int .i64 c)) (hac : a < c) :
    Calls Tryz.prog 206 #[.agg #[.int .i64 x, .int .i64 y, .int .i64 z], .pointer (some ⟨ga, 0, none⟩), .pointer (some ⟨gb, 0, none⟩)] w (OnlyB (x = a ∧ y = c) w) := by
  have hla := World.block_lt_of_cell? w _ ha
  have hlb := World.block_lt_of_cell? w _ hb
  simp only at hla hlb
  have hca : ¬ c < a := by omega
  have HB := Lib.hid (below_alloc (Below.refl w.heap.size w) (.cells #[.int .i64 x, .int .i64 y, .int .i64 z] 43))
  by_cases hx : x = a
  · have HX := Lib.hid hx
    have dx : (x == a) = true := by simpa using hx
    clear hx
    by_cases hy : y = c
    · have HY := Lib.hid hy
      have dy : (y == c) = true := by simpa using hy
      clear hy
      go_enter Tryz.func206, Tryz.ntmps206
      go_wp2_with fail
      go_ret
      exact onlyB_true ⟨HX.out, HY.out⟩ HB.out
    · have HY := Lib.hid hy
      have dy : (y == c) = false := by simpa using hy
      clear hy
      go_enter Tryz.func206, Tryz.ntmps206
      go_wp2_with fail
      go_ret
      exact onlyB_false (fun h => HY.out h.2) HB.out
  · have HX := Lib.hid hx
    have dx : (x == a) = false := by simpa using hx
    clear hx
    go_enter Tryz.func206, Tryz.ntmps206
    go_wp2_with fail
    go_ret
    exact onlyB_false (fun h => HX.out h.1) HB.out
set_option maxRecDepth 20000 in
set_option maxHeartbeats 800000 in
theorem closeTest_gt (x y z a c : Int) (ga gb : Nat) (w : World) (ha : w.cell? ⟨ga, 0, none⟩ = some (.int .i64 a)) (hb : w.cell? ⟨gb, 0, none⟩ = some (.int .i64 c)) (hac : c < a) :
    Calls Tryz.prog 206 #[.agg #[.int .i64 x, .int .i64 y, .int .i64 z], .pointer (some ⟨ga, 0, none⟩), .pointer (some ⟨gb, 0, none⟩)] w (OnlyB (x = c ∧ y = a) w) := by
  have hla := World.block_lt_of_cell? w _ ha
  have hlb := World.block_lt_of_cell? w _ hb
  simp only at hla hlb
  have hca : ¬ a < c := by omega
  have HB := Lib.hid (below_alloc (Below.refl w.heap.size w) (.cells #[.int .i64 x, .int .i64 y, .int .i64 z] 43))
  by_cases hx : x = c
  · have HX := Lib.hid hx
    have dx : (x == c) = true := by simpa using hx
    clear hx
    by_cases hy : y = a
    · have HY := Lib.hid hy
      have dy : (y == a) = true := by simpa using hy
      clear hy
      go_enter Tryz.func206, Tryz.ntmps206
      go_wp2_with fail
      go_ret
      exact onlyB_true ⟨HX.out, HY.out⟩ HB.out
    · have HY := Lib.hid hy
      have dy : (y == a) = false := by simpa using hy
      clear hy
      go_enter Tryz.func206, Tryz.ntmps206
      go_wp2_with fail
      go_ret
      exact onlyB_false (fun h => HY.out h.2) HB.out
  · have HX := Lib.hid hx
    have dx : (x == c) = false := by simpa using hx
    clear hx
    go_enter Tryz.func206, Tryz.ntmps206
    go_wp2_with fail
    go_ret
    exact onlyB_false (fun h => HX.out h.1) HB.out
set_option maxRecDepth 20000 in
set_option maxHeartbeats 800000 in
theorem closeTest_eq (x y z a c : Int) (ga gb : Nat) (w : World) (ha : w.cell? ⟨ga, 0, none⟩ = some (.int .i64 a)) (hb : w.cell? ⟨gb, 0, none⟩ = some (.int .i64 c)) (hac : ¬ a < c ∧ ¬ c < a) :
    Calls Tryz.prog 206 #[.agg #[.int .i64 x, .int .i64 y, .int .i64 z], .pointer (some ⟨ga, 0, none⟩), .pointer (some ⟨gb, 0, none⟩)] w (OnlyB (x = a ∧ y = a) w) := by
  have hla := World.block_lt_of_cell? w _ ha
  have hlb := World.block_lt_of_cell? w _ hb
  simp only at hla hlb
  obtain ⟨h1, h2⟩ := hac
  obtain rfl : a = c := by omega
  clear h2
  have HB := Lib.hid (below_alloc (Below.refl w.heap.size w) (.cells #[.int .i64 x, .int .i64 y, .int .i64 z] 43))
  by_cases hx : x = a
  · have HX := Lib.hid hx
    have dx : (x == a) = true := by simpa using hx
    clear hx
    by_cases hy : y = a
    · have HY := Lib.hid hy
      have dy : (y == a) = true := by simpa using hy
      clear hy
      go_enter Tryz.func206, Tryz.ntmps206
      go_wp2_with fail
      go_ret
      exact onlyB_true ⟨HX.out, HY.out⟩ HB.out
    · have HY := Lib.hid hy
      have dy : (y == a) = false := by simpa using hy
      clear hy
      go_enter Tryz.func206, Tryz.ntmps206
      go_wp2_with fail
      go_ret
      exact onlyB_false (fun h => HY.out h.2) HB.out
  · have HX := Lib.hid hx
    have dx : (x == a) = false := by simpa using hx
    clear hx
    go_enter Tryz.func206, Tryz.ntmps206
    go_wp2_with fail
    go_ret
    exact onlyB_false (fun h => HX.out h.1) HB.out
theorem closeTest_any (x y z a c : Int) (ga gb : Nat) (w : World) (ha : w.cell? ⟨ga, 0, none⟩ = some (.int .i64 a)) (hb : w.cell? ⟨gb, 0, none⟩ = some (.int .i64 c)) :
    Calls Tryz.prog 206 #[.agg #[.int .i64 x, .int .i64 y, .int .i64 z], .pointer (some ⟨ga, 0, none⟩), .pointer (some ⟨gb, 0, none⟩)] w (OnlyB (x = min a c ∧ y = max a c) w) := by
  by_cases h1 : a < c
  · rw [show min a c = a by omega, show max a c = c by omega]
    exact closeTest_lt x y z a c ga gb w ha hb h1
  · by_cases h2 : c < a
    · rw [show min a c = c by omega, show max a c = a by omega]
      exact closeTest_gt x y z a c ga gb w ha hb h2
    · rw [show min a c = a by omega, show max a c = a by omega]
      exact closeTest_eq x y z a c ga gb w ha hb ⟨h1, h2⟩
set_option maxRecDepth 20000 in
set_option maxHeartbeats 1600000 in
theorem withoutRoad_any (A : Option Addr) (k len cap : Nat) (xs : List T3) (w : World) (h : SlE 3 enc3 w A len xs) (hn : len ≤ 2097152) (hlc : len ≤ cap) (hk : k < len) :
    Calls Tryz.prog 207 #[.slice A len cap, .int .i64 k] w (RetOwn 3 enc3 43 (xs.eraseIdx k) w) := by
  have H := Lib.hid h
  clear h
  have k1 : (0 : Int) ≤ (k : Int) := by omega
  have k2 : (k : Int) ≤ (cap : Int) := by omega
  have k3 : (0 : Int) ≤ (k : Int) + 1 := by omega
  have k4 : (k : Int) + 1 ≤ (len : Int) := by omega
  have k5 : (k : Int) + 1 ≤ (cap : Int) := by omega
  have k6 : (len : Int) ≤ (cap : Int) := by omega
  have kk : (k : Int) < (len : Int) := by omega
  have k7 : IntKind.i64.wrap ((k : Int) + 1) = (k : Int) + 1 := IntWalk.i64_in _ (by omega)
  have k8 : ((k : Int) + 1).toNat = k + 1 := by omega
  go_enter Tryz.func207, Tryz.ntmps207
  go_wp2_with fail
  go_still_tail 7, (by kernel_rfl)
  change wpList _ _ _ _ _ w.drew
  clear k7
  have HBd := Lib.hid (below_drew (Below.refl w.heap.size w))
  generalize hWD : w.drew = wd at *
  clear hWD
  have hcut := (H.out.below HBd.out).cut (k := 3) (j := k + 1) (cap := cap) hk hlc
  generalize (if cap = k + 1 then A else Option.map (fun x => x.add ((k + 1) * 3)) A) = A' at *
  have hs := slS_new (k := 3) (enc := enc3) (w := wd) [⟨A, k, cap, xs.take k⟩, ⟨A', len - (k + 1), cap - (k + 1), xs.drop (k + 1)⟩]
    #[.slice A k cap, .slice A' (len - (k + 1)) (cap - (k + 1))] 38 rfl (m := 2) rfl (by
      intro s hs
      simp only [List.mem_cons, List.not_mem_nil, or_false] at hs
      rcases hs with rfl | rfl
      · exact (H.out.below HBd.out).take (Nat.le_of_lt hk)
      · exact hcut)
  clear hcut
  have HS := Lib.hid hs
  have HE := Lib.hid (List.eraseIdx_eq_take_drop_succ xs k)
  clear hs
  go_wp2_with fail
  refine (concatR_any HS.out (by omega) (by simp [snLen]; omega)).mono ?_
  rintro e w2 ⟨v, rfl, hown, hb2⟩
  have HB2 := Lib.hid (below_trans (below_alloc HBd.out _) hb2)
  have ea : snAll [(⟨A, k, cap, xs.take k⟩ : Sn T3), ⟨A', len - (k + 1), cap - (k + 1), xs.drop (k + 1)⟩] = xs.eraseIdx k := by rw [HE.out]; simp [snAll]
  rw [ea] at hown
  have HO2 := Lib.hid (hown.base_le (base' := w.heap.size) (by have := HBd.out.size; simp; omega))
  clear hown hb2 ea
  go_wp2_with fail
  go_ret
  exact ⟨_, rfl, HO2.out, HB2.out⟩
theorem directV_yes {n : Int} {xs : List T3} {a c : Int} (hok : RoadOk n xs) (h : 0 ≤ fndR xs a c) : ∃ d : Nat, directV n xs a c = d := by
  rcases fndR_spec hok a c with ⟨h1, _⟩ | ⟨j, p, h1, h2, h3, _⟩
  · omega
  · rw [directV_edge hok h3]
    have := edge_bd hok h3
    exact ⟨p.c.toNat, by omega⟩
theorem directV_no {n : Int} {xs : List T3} {a c : Int} (h : ¬ (RoadOk n xs ∧ 0 ≤ fndR xs a c)) : directV n xs a c = -1 := by
  unfold directV
  rw [if_neg h]
theorem fst_fndR {xs : List T3} {a c v : Int} (h : IsFstI (fun p => p.a = min a c ∧ p.b = max a c) xs v) : v = fndR xs a c := by
  unfold fndR
  rcases h with ⟨h1, h2⟩ | ⟨j, p, h1, h2, h3, h4⟩
  · rw [fndK_miss (fun i q _ hq => h2 i q hq)]
    exact h1
  · rw [fndK_hit (fun i q hi hq => h4 i q hi hq) h2 h3]
    exact h1
/-- What RoadsClose answers. -/
def CloseOf (n : Int) (xs : List T3) (a c : Int) (b : Bool) (ys : List T3) : Prop :=
  (b = true ∧ RoadOk n xs ∧ 0 ≤ fndR xs a c ∧ ys = xs.eraseIdx (fndR xs a c).toNat) ∨ (b = false ∧ ¬ (RoadOk n xs ∧ 0 ≤ fndR xs a c) ∧ ys = [])
set_option maxRecDepth 20000 in
set_option maxHeartbeats 3200000 in
theorem implRoadsClose_any (A : Option Addr) (n a c : Int) (len cap : Nat) (xs ys : List T3) (b : Bool) (w : World) (h : SlE 3 enc3 w A len xs) (hlc : len ≤ cap) (hn : len ≤ 1048577) (hb : CloseOf n xs a c b ys) :
    Calls Tryz.prog 178 #[.int .i64 n, .slice A len cap, .int .i64 a, .int .i64 c] w (RetOwnB 3 enc3 43 ys b w) := by
  have H := Lib.hid h
  have HL := Lib.hid h.len
  have HD := Lib.hid (fun W hW => implRoadsDirect_any A n a c len cap xs W (h.below hW) (by omega))
  have HB0 := Lib.hid (below_alloc (below_alloc (Below.refl w.heap.size w) (.cells #[.int .i64 a] 3)) (.cells #[.int .i64 c] 3))
  clear h
  have hc0 : ((w.alloc (.cells #[.int .i64 a] 3)).alloc (.cells #[.int .i64 c] 3)).cell? ⟨w.heap.size, 0, none⟩ = some (.int .i64 a) := by
    rw [World.cell?_alloc_lt _ _ _ (by show _ < (w.heap.push _).size; rw [Array.size_push]; exact Nat.lt_succ_self _)]
    simp
  have hc1 : ((w.alloc (.cells #[.int .i64 a] 3)).alloc (.cells #[.int .i64 c] 3)).cell? ⟨w.heap.size + 1, 0, none⟩ = some (.int .i64 c) := by
    have e : (w.alloc (.cells #[.int .i64 a] 3)).heap.size = w.heap.size + 1 := by
      show (w.heap.push _).size = _
      rw [Array.size_push]
    rw [← e]
    simp
  have hsz : ((w.alloc (.cells #[.int .i64 a] 3)).alloc (.cells #[.int .i64 c] 3)).heap.size = w.heap.size + 2 := by
    show ((w.heap.push _).push _).size = _
    rw [Array.size_push, Array.size_push]
  have HC0 := Lib.hid hc0
  have HC1 := Lib.hid hc1
  have HSZ := Lib.hid hsz
  clear hsz
  rcases hb with ⟨rfl, hok, hf, rfl⟩ | ⟨rfl, hno, rfl⟩
  · obtain ⟨d, hd⟩ := directV_yes hok hf
    obtain ⟨k, hk⟩ : ∃ k : Nat, fndR xs a c = k := ⟨(fndR xs a c).toNat, by omega⟩
    have hkl : k < len := by
      rcases (fndR_bd xs a c).2 with h1 | ⟨j, p, h1, h2⟩
      · omega
      · have h3 := (List.getElem?_eq_some_iff.1 h2).1
        rw [HL.out] at h3
        omega
    rw [hd] at HD
    have HK := Lib.hid hk
    have hdn : ¬ (d : Int) < 0 := by omega
    clear hd hok hf hk
    go_enter Tryz.func178, Tryz.ntmps178
    go_wp2_with fail
    refine (HD.out _ HB0.out).mono ?_
    rintro e w1 ⟨rfl, hb1⟩
    have HB1 := Lib.hid (below_trans HB0.out hb1)
    have g0 : w1.cell? ⟨w.heap.size, 0, none⟩ = some (.int .i64 a) := by rw [hb1.cell (by rw [HSZ.out]; show w.heap.size < _; omega)]; exact HC0.out
    have g1 : w1.cell? ⟨w.heap.size + 1, 0, none⟩ = some (.int .i64 c) := by rw [hb1.cell (by rw [HSZ.out]; show w.heap.size + 1 < _; omega)]; exact HC1.out
    have HG0 := Lib.hid g0
    have HG1 := Lib.hid g1
    clear hb1 hc0 hc1 g0 g1
    go_wp2_with fail
    refine (indexRoad_any (fun p => p.a = min a c ∧ p.b = max a c) _ _ A len cap xs w1 (H.out.below HB1.out) (by omega) (fun W hW j x y z _ => closeTest_any x y z a c _ _ W (cell_below' hW HG0.out) (cell_below' hW HG1.out))).mono ?_
    rintro e w2 ⟨v, rfl, hv, hb2⟩
    obtain rfl : v = k := by rw [fst_fndR hv, HK.out]
    have HB2 := Lib.hid (below_trans HB1.out hb2)
    clear hv hb2
    go_wp2_with fail
    refine (withoutRoad_any A k len cap xs w2 (H.out.below HB2.out) (by omega) hlc hkl).mono ?_
    rintro e w3 ⟨v3, rfl, hown, hb3⟩
    have HB3 := Lib.hid (below_trans HB2.out hb3)
    have HO := Lib.hid (hown.base_le HB2.out.size)
    clear hown hb3
    go_wp2_with fail
    go_ret2
    exact ⟨_, rfl, by rw [HK.out, Int.toNat_natCast]; exact HO.out, HB3.out⟩
  · rw [directV_no hno] at HD
    clear hno
    go_enter Tryz.func178, Tryz.ntmps178
    go_wp2_with fail
    refine (HD.out _ HB0.out).mono ?_
    rintro e w1 ⟨rfl, hb1⟩
    have HB1 := Lib.hid (below_trans HB0.out hb1)
    clear hb1 hc0 hc1
    go_wp2_with fail
    go_ret2
    exact ⟨_, rfl, own_new w1 _ _ HB1.out.size enc3_len [] #[] rfl (by simp) rfl, below_alloc HB1.out _⟩
set_option maxRecDepth 20000 in
set_option maxHeartbeats 3200000 in
theorem specRoadsClose_any (A : Option Addr) (n a c : Int) (len cap : Nat) (xs ys : List T3) (b : Bool) (w : World) (h : SlE 3 enc3 w A len xs) (hlc : len ≤ cap) (hn : len ≤ 1048577) (h1 : -1000000 ≤ n) (h2 : n ≤ 1000000) (hb : CloseOf n xs a c b ys) :
    Calls Tryz.prog 74 #[.int .i64 n, .slice A len cap, .int .i64 a, .int .i64 c] w (RetOwnB 3 enc3 43 ys b w) := by
  have H := Lib.hid h
  have HL := Lib.hid h.len
  have HD := Lib.hid (specRoadsDirect_any A n a c len cap xs w h (by omega) h1 h2)
  clear h
  rcases hb with ⟨rfl, hok, hf, rfl⟩ | ⟨rfl, hno, rfl⟩
  · obtain ⟨d, hd⟩ := directV_yes hok hf
    obtain ⟨k, hk⟩ : ∃ k : Nat, fndR xs a c = k := ⟨(fndR xs a c).toNat, by omega⟩
    have hkl : k < len := by
      rcases (fndR_bd xs a c).2 with h1 | ⟨j, p, h1, h2⟩
      · omega
      · have h3 := (List.getElem?_eq_some_iff.1 h2).1
        rw [HL.out] at h3
        omega
    rw [hd] at HD
    have HK := Lib.hid hk
    have hdn : ¬ (d : Int) < 0 := by omega
    clear hd hok hf hk
    go_enter Tryz.func74, Tryz.ntmps74
    go_wp2_with fail
    refine HD.out.mono ?_
    rintro e w0 ⟨rfl, hb0⟩
    have HB0 := Lib.hid hb0
    clear hb0
    go_wp2_with fail
    refine (l1Find_any A a c len cap xs w0 (H.out.below HB0.out) (by omega)).mono ?_
    rw [HK.out]
    rintro e w1 ⟨rfl, hb1⟩
    have HB1 := Lib.hid (below_trans HB0.out hb1)
    clear hb1
    have k1 : (0 : Int) ≤ (k : Int) := by omega
    have k2 : (k : Int) ≤ (cap : Int) := by omega
    have k3 : (0 : Int) ≤ (k : Int) + 1 := by omega
    have k4 : (k : Int) + 1 ≤ (len : Int) := by omega
    have k5 : (k : Int) + 1 ≤ (cap : Int) := by omega
    have k6 : (len : Int) ≤ (cap : Int) := by omega
    have k7 : IntKind.i64.wrap ((k : Int) + 1) = (k : Int) + 1 := IntWalk.i64_in _ (by omega)
    have k8 : ((k : Int) + 1).toNat = k + 1 := by omega
    have hs1 := HB1.out.size
    have O1 := Lib.hid (OwnE.drew (own_new (enc := enc3) (k := 3) w1 43 w.heap.size hs1 enc3_len [] #[] rfl (by simp) rfl))
    have n1 : (([] : List T3).length + k) * 24 ≤ 140737488355328 := by simp; omega
    have n2 : ([] : List T3).length + k ≤ maxLen := by simp [maxLen]; omega
    have n3 : w.heap.size ≤ (w1.alloc (.cells #[] 43)).drew.heap.size := by simp; omega
    have N := Lib.hid (And.intro n1 (And.intro n2 n3))
    have hl := H.out.len
    have m1 : (([] ++ xs.take k).length + (len - (k + 1))) * 24 ≤ 140737488355328 := by simp; omega
    have m2 : ([] ++ xs.take k).length + (len - (k + 1)) ≤ maxLen := by simp [maxLen]; omega
    have N2 := Lib.hid (And.intro m1 m2)
    clear n1 n2 n3 m1 m2 hl
    have HA1 := Lib.hid (below_drew (below_alloc HB1.out (.cells #[] 43)))
    go_wp2_with fail
    go_region_held3 (fun w' => SlE 3 enc3 w' A len xs ∧ Below w.heap.size w w')
      (first | exact ⟨(H.out.below HB1.out).drew, below_drew HB1.out⟩ | exact ⟨H.out.below HA1.out, HA1.out⟩ | (have := HB2.out; exact ⟨H.out.below this, this⟩) | (have := HB3.out; exact ⟨H.out.below this, this⟩) | fail)
      (first
        | (refine step_cat (bytes := 24) (base := w.heap.size) enc3_len enc3_one (Nat.succ_pos 2) rfl (.tmp 22) (.tmp 25) _ rfl Tryz.underlying38 info_conR rfl _ [] rfl O1.out rfl (SlE.take (H.out.below HA1.out) (Nat.le_of_lt hkl)) N.out.1 N.out.2.1 N.out.2.2 ?_; intro v2 w2 hown2 hg2; have HB2 := Lib.hid (below_grown HA1.out hg2 O1.out (Nat.le_refl _)); have O2 := Lib.hid hown2; clear hown2 hg2)
        | (refine step_cat (bytes := 24) (base := w.heap.size) enc3_len enc3_one (Nat.succ_pos 2) rfl (.tmp 26) (.tmp 30) _ rfl Tryz.underlying38 info_conR rfl _ _ rfl O2.out rfl (SlE.cut (H.out.below HB2.out) hkl hlc) N2.out.1 N2.out.2 HB2.out.size ?_; intro v3 w3 hown3 hg3; have HB3 := Lib.hid (below_grown HB2.out hg3 O2.out (Nat.le_refl _)); have O3 := Lib.hid hown3; clear hown3 hg3)
        | fail)
    go_wp2
    all_goals
      go_ret2
      exact ⟨_, rfl, by rw [HK.out, Int.toNat_natCast, List.eraseIdx_eq_take_drop_succ]; exact O3.out, HB3.out⟩
  · rw [directV_no hno] at HD
    clear hno
    go_enter Tryz.func74, Tryz.ntmps74
    go_wp2_with fail
    refine HD.out.mono ?_
    rintro e w1 ⟨rfl, hb1⟩
    have HB1 := Lib.hid hb1
    clear hb1
    go_wp2_with fail
    go_ret2
    exact ⟨_, rfl, own_new w1 _ _ HB1.out.size enc3_len [] #[] rfl (by simp) rfl, below_alloc HB1.out _⟩
end Go.Proofs.YtgjllminidlolaaGreatDoor
