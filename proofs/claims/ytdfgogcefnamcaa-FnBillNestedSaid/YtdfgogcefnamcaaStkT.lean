/- Contracts: the program's BillMoves, BillNested, BillStack. -/
import Derived.Test.YtdfgogcefnamcaaStkU
import Derived.Test.YtdfgogcefnamcaaWalkC
import Derived.Test.YtdfgogcefnamcaaWalkF
set_option linter.unusedVariables false
namespace Go.Proofs.Ytdfgogcefnamcaa
open Go.RowKit

/-- Slices of two element types lie apart. -/
theorem own_types {α β : Type} {k k' ty ty' base base' : Nat} {enc : α → List Value} {enc' : β → List Value} {w : World} {v v' : Value} {xs : List α} {ys : List β} (h : OwnE k enc ty base w v xs) (h' : OwnE k' enc' ty' base' w v' ys) (hne : ty ≠ ty') : v.ownBlock = none ∨ v.ownBlock ≠ v'.ownBlock := by
  rcases h.2 with ⟨hv, _⟩ | ⟨g, cap, cur, hv, _, hh, _⟩
  · exact .inl (by rw [hv]; rfl)
  · right
    intro e
    rcases h'.2 with ⟨hv', _⟩ | ⟨g', cap', cur', hv', _, hh', _⟩
    · rw [hv, hv'] at e; simp [Value.ownBlock] at e
    · rw [hv, hv'] at e
      simp only [Value.ownBlock, Option.some.injEq] at e
      subst e
      rw [hh] at hh'
      simp only [Option.some.injEq, Obj.cells.injEq] at hh'
      exact hne hh'.2.1
set_option maxRecDepth 20000 in
set_option maxHeartbeats 800000 in
theorem implBillMoves_yes (A : Option Addr) (n len cap : Nat) (xs : List T3) (w : World) (h : SlE 3 enc3 w A len xs) (hB : BillOk n xs) :
    Calls Try.prog 37 #[.int .i64 n, .slice A len cap] w (Only (.int .i64 (runI (packs xs) (n + 1)).2) w) := by
  have H := Lib.hid h
  have HB := Lib.hid hB
  have hlen : len ≤ 12 := by have := hB.2.2.1; have := h.len; omega
  have hn : n ≤ 7 := by have := hB.2.1; omega
  clear h hB
  go_enter Try.func37, Try.ntmps37
  go_wp2_with fail
  refine (implBillValid_any A n len cap xs w H.out (by omega)).mono ?_
  intro e w1 hp
  obtain ⟨rfl, hb1⟩ := hp.yes HB.out
  have HB1 := Lib.hid hb1
  clear hb1 hp
  go_wp2_with fail
  refine (stackAt_any A n len cap xs w1 (H.out.below HB1.out) hlen hn).mono ?_
  rintro e w2 ⟨B, q, rfl, hBq, hst, hb2⟩
  have HB2 := Lib.hid (below_trans HB1.out hb2)
  obtain ⟨hq, A2, n2, c2, ps, hblk, hown, hpl, hnc, e⟩ := hst
  have c1 : w2.cell? ⟨q, 1, none⟩ = some (.int .i64 (runI (packs xs) (n + 1)).2) := blk_cell hblk 1
  clear hb2 hblk hown e
  go_wp2
  go_ret
  exact ⟨rfl, HB2.out⟩

set_option maxRecDepth 20000 in
set_option maxHeartbeats 800000 in
theorem implBillMoves_no (A : Option Addr) (n : Int) (len cap : Nat) (xs : List T3) (w : World) (h : SlE 3 enc3 w A len xs) (hl : len ≤ 16777216) (hB : ¬ BillOk n xs) :
    Calls Try.prog 37 #[.int .i64 n, .slice A len cap] w (Only (.int .i64 (-1)) w) := by
  go_enter Try.func37, Try.ntmps37
  go_wp2_with fail
  refine (implBillValid_any A n len cap xs w h hl).mono ?_
  intro e w1 hp
  obtain ⟨rfl, hb1⟩ := hp.no hB
  have HB1 := Lib.hid hb1
  clear hb1 hp
  go_wp2
  go_ret
  exact ⟨rfl, HB1.out⟩

set_option maxRecDepth 20000 in
set_option maxHeartbeats 800000 in
theorem implBillNested_of (A : Option Addr) (n r : Int) (len cap : Nat) (w : World) (h : Calls Try.prog 37 #[.int .i64 n, .slice A len cap] w (Only (.int .i64 r) w)) :
    Calls Try.prog 44 #[.int .i64 n, .slice A len cap] w (Only (.bool (r == 0)) w) := by
  have H := Lib.hid h
  clear h
  go_enter Try.func44, Try.ntmps44
  go_wp2_with fail
  refine H.out.mono ?_
  rintro e w1 ⟨rfl, hb1⟩
  have HB1 := Lib.hid hb1
  clear hb1
  go_wp2
  go_ret
  exact ⟨rfl, HB1.out⟩

set_option maxRecDepth 20000 in
set_option maxHeartbeats 1600000 in
theorem implBillStack_yes (A : Option Addr) (n s : Nat) (len cap : Nat) (xs : List T3) (w : World) (h : SlE 3 enc3 w A len xs) (hB : BillOk n xs) (hs : s ≤ n) :
    Calls Try.prog 40 #[.int .i64 n, .slice A len cap, .int .i64 s] w (RetOwnB 1 encI 3 (runI (packs xs) (s + 1)).1 true w) := by
  have H := Lib.hid h
  have HB := Lib.hid hB
  have hxl := h.len
  have hx12 := hB.2.2.1
  have hlen : len ≤ 12 := by omega
  have hn : n ≤ 7 := by have := hB.2.1; omega
  clear h hB
  have k1 : (0 : Int) ≤ (s : Int) := by omega
  have k2 : (s : Int) ≤ (n : Int) := by omega
  go_enter Try.func40, Try.ntmps40
  go_wp2_with fail
  refine (implBillValid_any A n len cap xs _ (H.out.alloc _) (by omega)).mono ?_
  intro e w1 hp
  obtain ⟨rfl, hb1⟩ := hp.yes HB.out
  have HB0 := Lib.hid (below_trans (below_alloc (Below.refl _ w) _) hb1)
  have HO1 := Lib.hid (OwnE.below (own_new (enc := encI) (k := 1) w 3 w.heap.size (Nat.le_refl _) encI_len [] #[] rfl (by simp) rfl) hb1 (Nat.le_refl _))
  clear hb1 hp
  go_wp2_with fail
  refine (stackAt_any A s len cap xs w1 (H.out.below HB0.out) hlen (by omega)).mono ?_
  rintro e w2 ⟨B, q, rfl, hBq, hst, hb2⟩
  have HB2 := Lib.hid (below_trans HB0.out hb2)
  have HO2 := Lib.hid (HO1.out.below hb2 (Nat.le_refl _))
  have hbd := (runI_bd (packs xs) (by rw [packs_len]; omega) (s + 1) (by omega)).1
  obtain ⟨hq, A2, n2, c2, ps, hblk, hown, hpl, hnc, e⟩ := hst
  have c0 : w2.cell? ⟨q, 0, none⟩ = some (.slice A2 n2 c2) := blk_cell hblk 0
  have hbd' : n2 ≤ 96 := by rw [← e, List.length_map, hpl] at hbd; omega
  clear hbd
  have HP := Lib.hid hpl
  have HW := Lib.hid hown
  have HE := Lib.hid e
  clear hb2 hblk hown e
  go_wp2
  go_loopw [8, 33, 10] (fun v i _ wr => ∃ k : Nat, k ≤ n2 ∧ i = .int .i64 k ∧ OwnE 1 encI 3 w.heap.size wr v ((ps.take k).map (·.i)) ∧ Below w.heap.size w wr ∧ OwnE 4 enc4 78 B wr (.slice A2 n2 c2) ps) (fun _ i _ _ => n2 - (intOf i).toNat)
  case atStart => exact ⟨0, by omega, rfl, HO2.out, HB2.out, HW.out⟩
  case round =>
    obtain ⟨k, hk, rfl, hown, hbr, hbs⟩ := hrel
    have HO := Lib.hid hown
    have HR := Lib.hid hbr
    have HRS := Lib.hid hbs
    clear hown hbr hbs
    by_cases hlt : k < n2
    · obtain ⟨b, off, x, y, i, z, rfl, hbl, hx, h0, h1, h2, h3⟩ := at4 (sl_of_own_at enc4_len HRS.out HP.out) (Below.refl _ _) hlt
      have HX := Lib.hid (show (ps.take (k + 1)).map (·.i) = (ps.take k).map (·.i) ++ [i] from by rw [take_next hx]; simp)
      have hlen : ((ps.take k).map (·.i)).length = k := by rw [List.length_map, List.length_take]; have := HP.out; omega
      have M1 := Lib.hid (show (((ps.take k).map (·.i)).length + 1) * 8 ≤ 140737488355328 ∧ ((ps.take k).map (·.i)).length + 1 ≤ maxLen from by rw [hlen]; exact ⟨by omega, by unfold maxLen; omega⟩)
      have hsz := HR.out.size
      generalize hO : Obj.cells #[.int .i64 x, .int .i64 y, .int .i64 i, .int .i64 z] 78 = O
      have HOO := Lib.hid hO
      have Z1 := Lib.hid (show w.heap.size ≤ (wr.alloc O).heap.size from by simp; omega)
      have Z2 := Lib.hid (show wr.heap.size + 1 = (wr.alloc O).heap.size from by simp)
      have O1 := Lib.hid (HO.out.alloc O)
      have O2 := Lib.hid (HRS.out.alloc O)
      have OT := Lib.hid (own_types O2.out O1.out (show (78 : Nat) ≠ 3 from by decide))
      have BA := Lib.hid (below_alloc HR.out O)
      have LE := Nat.le_refl w.heap.size
      clear hlen hx
      subst hO
      go_wp2_with (at_builtin; refine wpList_push 1 8 3 encI encI_len encI_one Nat.one_pos i _ _ rfl rfl _ _ _ rfl Try.underlying29 info_int rfl w.heap.size _ (List.map (fun p : P4 => p.i) (ps.take k)) rfl rfl Z2.out O1.out M1.out.1 M1.out.2 Z1.out ?_; intro v' w' hown' hg'; have HO' := Lib.hid hown'; have HB' := Lib.hid (below_grown BA.out hg' O1.out LE); have HRS' := Lib.hid (OwnE.apart O2.out hg' OT.out); clear hown' hg')
      go_roundw
      case rel => exact ⟨k + 1, by omega, by go_num, by rw [HX.out]; exact HO'.out, HB'.out, HRS'.out⟩
      case measure => simp [intOf]; omega
    · have e : ps.take k = ps := List.take_of_length_le (by have := HP.out; omega)
      rw [e, HE.out] at HO
      clear e
      go_wp2
      go_ret2
      exact ⟨_, rfl, HO.out, HR.out⟩

set_option maxRecDepth 20000 in
set_option maxHeartbeats 800000 in
theorem implBillStack_no (A : Option Addr) (n s : Int) (len cap : Nat) (xs : List T3) (w : World) (h : SlE 3 enc3 w A len xs) (hl : len ≤ 16777216) (hB : ¬ (BillOk n xs ∧ 0 ≤ s ∧ s ≤ n)) :
    Calls Try.prog 40 #[.int .i64 n, .slice A len cap, .int .i64 s] w (RetOwnB 1 encI 3 ([] : List Int) false w) := by
  have H := Lib.hid h
  have HB := Lib.hid hB
  clear h hB
  by_cases hb : BillOk n xs
  · have hft : ¬ (0 ≤ s ∧ s ≤ n) := fun h => HB.out ⟨hb, h⟩
    have HC := Lib.hid hb
    have HF := Lib.hid hft
    clear hb hft
    go_enter Try.func40, Try.ntmps40
    go_wp2_with fail
    refine (implBillValid_any A n len cap xs _ (H.out.alloc _) hl).mono ?_
    intro e w1 hp
    obtain ⟨rfl, hb1⟩ := hp.yes HC.out
    have HB1 := Lib.hid (below_trans (below_alloc (Below.refl _ w) _) hb1)
    have HO1 := Lib.hid (OwnE.below (own_new (enc := encI) (k := 1) w 3 w.heap.size (Nat.le_refl _) encI_len [] #[] rfl (by simp) rfl) hb1 (Nat.le_refl _))
    clear hb1 hp
    go_wp2
    all_goals first
      | exact absurd (by omega) HF.out
      | (go_ret2; exact ⟨_, rfl, HO1.out, HB1.out⟩)
  · go_enter Try.func40, Try.ntmps40
    go_wp2_with fail
    refine (implBillValid_any A n len cap xs _ (H.out.alloc _) hl).mono ?_
    intro e w1 hp
    obtain ⟨rfl, hb1⟩ := hp.no hb
    have HB1 := Lib.hid (below_trans (below_alloc (Below.refl _ w) _) hb1)
    have HO1 := Lib.hid (OwnE.below (own_new (enc := encI) (k := 1) w 3 w.heap.size (Nat.le_refl _) encI_len [] #[] rfl (by simp) rfl) hb1 (Nat.le_refl _))
    clear hb1 hp
    go_wp2
    go_ret2
    exact ⟨_, rfl, HO1.out, HB1.out⟩
end Go.Proofs.Ytdfgogcefnamcaa
