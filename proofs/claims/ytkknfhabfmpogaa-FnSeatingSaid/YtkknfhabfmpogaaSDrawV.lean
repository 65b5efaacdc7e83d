/- Contracts: the draw of bookings and a seating. -/
import Derived.Test.YtkknfhabfmpogaaSDrawC
import Derived.RegionTactic
set_option linter.unusedVariables false
namespace Go.Proofs.Ytkknfhabfmpogaa
open Go.RowKit

/-- Another slice of the call's own grows beside. -/
theorem DGB.to' {w W W' : World} {R m b : Nat} {v : Value} {xs : List B3} {row : Option Nat} (h : DGB w R m v xs W) (hg : W.grownBy W' row) (h1 : ∀ j, row = some j → b ≤ j) (h2 : ∀ j, v.ownBlock = some j → j < b) (hb : w.heap.size ≤ b := by omega) : DGB w R m v xs W' := by
  have hR := h.1
  refine ⟨h.1, h.2.1.grown hg (fun j hj => by have := h1 j hj; omega), ⟨hg.os.trans h.2.2.1.os, hg.tape.trans h.2.2.1.tape, hg.output.trans h.2.2.1.output, Nat.le_trans h.2.2.1.size hg.size, fun j hj hne => ?_⟩, OwnE.apart h.2.2.2 hg ?_⟩
  · exact (hg.block j (Nat.lt_of_lt_of_le hj h.2.2.1.size) (fun e => by have := h1 j e.symm; omega)).trans (h.2.2.1.block j hj hne)
  · cases hv : v.ownBlock with
    | none => exact .inl rfl
    | some j =>
      refine .inr fun e => ?_
      have := h2 j hv
      have := h1 j e.symm
      omega
/-- A number of legs, bookings and a seating have been drawn. -/
def DrewKS (w : World) (e : Ending) (w' : World) : Prop :=
  ∃ n v xs v2 ys, e = .returned (.tuple #[.int .i64 n, v, v2]) ∧ 0 ≤ n ∧ n ≤ 8 ∧ xs.length ≤ 12 ∧ ys.length ≤ 12 ∧ OwnE 3 encB 28 w.heap.size w' v xs ∧ OwnE 1 encI 3 w.heap.size w' v2 ys ∧ Below w.heap.size w w'
set_option maxRecDepth 20000 in
set_option maxHeartbeats 3200000 in
theorem drawSeatingValid_any (A : Option Addr) (n c : Nat) (bs : List Int) (w : World) (h : SlE 1 encU w A n bs) (hb : Bytes bs) (hn : n ≤ 1048576) (hc : n ≤ c) :
    Calls Try.prog 20 #[.slice A n c] w (DrewKS w) := by
  have H := Lib.hid h
  have HB := Lib.hid hb
  clear h hb
  go_enter Try.func20, Try.ntmps20
  go_wp2_with fail
  refine (l6Open_any A n c bs w H.out HB.out hn hc).mono ?_
  rintro e w1 ⟨rfl, hr, hb1, hs1⟩
  have HR := Lib.hid hr
  have HB1 := Lib.hid hb1
  clear hr hb1 H HB
  go_wp2_with fail
  refine (l92Bookings_any w.heap.size 0 w1 HR.out (by omega)).mono ?_
  rintro e w2 ⟨k, v, xs, rfl, k0, k1, hl, hd⟩
  have D2 := Lib.hid hd
  obtain ⟨A2, c2, rfl, -, hlc⟩ := hd.2.2.2.slc encB_len rfl
  generalize hlen : xs.length = len at *
  have HL := Lib.hid hlen
  clear hd HR hlen
  obtain ⟨k, rfl⟩ : ∃ i : Nat, k = i := ⟨k.toNat, by omega⟩
  by_cases hok : BookOk k xs
  rotate_left
  · have HN := Lib.hid hok
    clear hok
    have hmk := fun W => run_make_rowN (P := Try.prog) 29 3 (.int .i64 0) 1 8 Try.underlying29 info_intN .i64 .i64 len (by omega) (by omega) W
    go_wp2_with fail
    refine (specSeatingMake_no A2 k len c2 xs w2 (sl_of_own_at encB_len D2.out.2.2.2 HL.out) (by omega) HN.out).mono ?_
    rintro e w3 ⟨v3, rfl, hown3, hb3⟩
    have D3 := Lib.hid (D2.out.below hb3)
    clear hown3 hb3 D2
    go_wp2_with fail
    have D4 := Lib.hid D3.out.drew
    have hz4 := D4.out.size
    have hz3 := D3.out.size
    go_region_with (fail)
    all_goals
      go_wp2_with fail
      go_ret3
      exact ⟨_, _, xs, _, List.replicate len 0, rfl, by omega, by omega, by rw [HL.out]; exact hl, by simp; omega, (OwnE.alloc D4.out.2.2.2 _).base_le (by omega),
        (by
          have h1 := own_new (enc := encI) (k := 1) w3.drew 3 w.heap.size (by simp; omega) encI_len (List.replicate len (0 : Int)) (madeCells #[.int .i64 0] len) (made1 len) (by simp [maxLen]; omega) rfl
          rw [List.length_replicate] at h1
          exact h1),
        below_alloc (below_rd HB1.out D4.out.2.2.1) _⟩
  have HOK := Lib.hid hok
  have HPL := Lib.hid (show (plan xs k).length = len by rw [plan_len hok, HL.out])
  have HPY := Lib.hid (fun (W : World) (hW : SlE 3 encB W A2 len xs) => specSeatingMake_yes A2 k len c2 xs W hW hok)
  clear hok
  generalize plan xs k = ys at *
  go_wp2_with fail
  refine (HPY.out w2 (sl_of_own_at encB_len D2.out.2.2.2 HL.out)).mono ?_
  rintro e w3 ⟨v3, rfl, hown3, hb3⟩
  obtain ⟨A3, c3, rfl, -, -⟩ := hown3.slc encI_len HPL.out
  have D3 := Lib.hid (D2.out.below hb3)
  have Lv := Lib.hid (fun j hj => Nat.lt_of_lt_of_le (D2.out.2.2.2.lt j hj).2 hb3.size)
  have S3 := Lib.hid (sl_of_own_at encI_len hown3 HPL.out)
  have hz3 := D3.out.size
  have E3 := Lib.hid (own_new (enc := encI) (k := 1) w3 3 w3.heap.size (Nat.le_refl _) encI_len [] #[] rfl (by simp) rfl)
  clear hown3 hb3 D2
  by_cases h0 : len = 0
  case' pos =>
    have d0 : decide (0 < len) = false := by simp; omega
    clear h0
  case' neg =>
    have h1 : 0 < len := by omega
    have h2 : 1 ≤ (len : Int) := by omega
  all_goals
    go_wp2_with (at_builtin; refine wpList_cat (bytes := 8) encI_len encI_one (by omega) rfl _ _ _ rfl Try.underlying29 info_intN rfl _ [] rfl E3.out rfl (S3.out.alloc _) (by simp; omega) (by simp [maxLen]; omega) (by simp) ?_; intro v4 w4 hown4 hg4; rw [List.nil_append] at hown4; obtain ⟨A4, c4, rfl, -, hlc4⟩ := hown4.slc encI_len HPL.out; have O4 := Lib.hid hown4; have D4 := Lib.hid ((D3.out.alloc (.cells #[] 3)).to' hg4 (fun j hj => (E3.out.lt j hj).1) (fun j hj => (Lv.out j hj))); have hsz4 := Nat.le_trans (below_alloc (Below.refl _ w3) (.cells #[] 3)).size hg4.size; clear hown4 hg4)
  rotate_left
  · go_ret3
    exact ⟨_, _, xs, _, ys, rfl, by omega, by omega, by rw [HL.out]; exact hl, by rw [HPL.out]; exact hl, D4.out.2.2.2.base_le (by omega), O4.out.base_le (by omega), below_rd HB1.out D4.out.2.2.1⟩
  have hne : ∀ j, Value.ownBlock (.slice A4 len c4) = some j → w3.heap.size ≤ j := fun j hj => (O4.out.lt j hj).1
  have HNE := Lib.hid hne
  have hR3 := Nat.lt_of_lt_of_le hs1 D3.out.size
  clear hne
  have ap : ∀ (W W' : World) (zs : List Int), OwnE 1 encI 3 w3.heap.size W (.slice A4 len c4) zs → W.grownBy W' (some w.heap.size) → OwnE 1 encI 3 w3.heap.size W' (.slice A4 len c4) zs := fun W W' zs ho hg =>
    OwnE.apart ho hg (.inr fun e => by have := HNE.out _ e; omega)
  have AP := Lib.hid ap
  clear ap
  go_wp2_with fail
  refine (pick_any w.heap.size 40 2 w4 (by simpa using D4.out.2.1) (by omega) (by omega)).mono ?_
  rintro e w5 ⟨x, rfl, b0, b1, -, hr, hg⟩
  have D5 := Lib.hid (D4.out.pick hr hg)
  have O5 := Lib.hid (AP.out _ _ _ O4.out hg)
  clear hr hg D4 O4 b1
  by_cases e0 : x = 0
  · obtain ⟨g, rfl, -, hg0, hg1, hfz⟩ := O5.out.form (by rw [HPL.out]; omega)
    clear hg1 hfz
    go_wp2_with fail
    refine (pick_any w.heap.size 41 len w5 D5.out.2.1 (by omega) (by omega)).mono ?_
    rintro e w6 ⟨y, rfl, c0, c1, -, hr, hg⟩
    have c1 := c1 (by omega)
    obtain ⟨y, rfl⟩ : ∃ i : Nat, y = i := ⟨y.toNat, by omega⟩
    have D6 := Lib.hid (D5.out.pick hr hg)
    have O6 := Lib.hid (AP.out _ _ _ O5.out hg)
    clear hr hg D5 O5
    go_wp2_with fail
    refine (pick_any w.heap.size 42 8 w6 D6.out.2.1 (by omega) (by omega)).mono ?_
    rintro e w7 ⟨z, rfl, d0, d1, -, hr, hg⟩
    have d1 := d1 (by omega)
    have D7 := Lib.hid (D6.out.pick hr hg)
    have o7 := AP.out _ _ _ O6.out hg
    have hfz := OwnE.frozen o7
    obtain ⟨q, hq⟩ : ∃ q, ys[y]? = some q := ⟨_, List.getElem?_eq_getElem (by rw [HPL.out]; omega)⟩
    have hcl := OwnE.cell1 o7 hq
    have O8 := Lib.hid (own1_set o7 HPL.out y (z - 1))
    have D8 := Lib.hid (D7.out.to' O8.out.2 (fun j hj => by injection hj with hj; omega) (fun j hj => Lv.out j hj))
    clear hr hg D6 O6 hq o7 D7
    go_wp2_with fail
    go_ret3
    exact ⟨_, _, xs, _, ys.set y (z - 1), rfl, by omega, by omega, by rw [HL.out]; exact hl, by rw [List.length_set, HPL.out]; exact hl, D8.out.2.2.2.base_le (by omega), O8.out.1.base_le (by omega), below_rd HB1.out D8.out.2.2.1⟩
  · go_wp2_with fail
    go_ret3
    exact ⟨_, _, xs, _, ys, rfl, by omega, by omega, by rw [HL.out]; exact hl, by rw [HPL.out]; exact hl, D5.out.2.2.2.base_le (by omega), O5.out.base_le (by omega), below_rd HB1.out D5.out.2.2.1⟩
end Go.Proofs.Ytkknfhabfmpogaa
