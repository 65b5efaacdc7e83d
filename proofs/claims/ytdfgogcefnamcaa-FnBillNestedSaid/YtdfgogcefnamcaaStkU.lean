/- Contracts: a stop of the stack, all stops. -/
import Derived.Test.YtdfgogcefnamcaaStkV
set_option linter.unusedVariables false
namespace Go.Proofs.Ytdfgogcefnamcaa
open Go.RowKit

set_option maxRecDepth 20000 in
set_option maxHeartbeats 3200000 in
theorem stopAt_any (B q : Nat) (is : List Int) (mv s : Int) (A : Option Addr) (n cap : Nat) (ls : List P4) (w : World) (h : Stk B w q is mv) (hL : ∀ w', Below B w w' → SlE 4 enc4 w' A n ls) (hn : n ≤ 12)
    (hl : is.length ≤ 96) (h0 : 0 ≤ mv) (h1 : mv ≤ 100000) (hB : B ≤ w.heap.size) :
    Calls Try.prog 85 #[.pointer (some ⟨q, 0, none⟩), .int .i64 s, .slice A n cap] w fun e w' => e = .returned (.tuple #[]) ∧ Stk B w' q (stopI ls s (is, mv)).1 (stopI ls s (is, mv)).2 ∧ Below B w w' := by
  have HL := Lib.hid hL
  have HS := Lib.hid h
  have hll := (hL w (Below.refl _ _)).len
  have HN := Lib.hid hll
  clear hL h hll
  go_enter Try.func85, Try.ntmps85
  go_wp2
  go_loopw [12, 7] (fun i _ wr => ∃ k : Nat, k ≤ n ∧ i = .int .i64 k ∧ Stk B wr q (takesP s (ls.take k) (is, mv)).1 (takesP s (ls.take k) (is, mv)).2 ∧ Below B w wr) (fun i _ _ => n - (intOf i).toNat)
  case atStart => exact ⟨0, by omega, rfl, HS.out, Below.refl _ _⟩
  case round =>
    obtain ⟨k, hk, rfl, hst, hbr⟩ := hrel
    have HR := Lib.hid hbr
    have HT := Lib.hid hst
    have hBr := Nat.le_trans hB hbr.size
    clear hst hbr
    by_cases hlt : k < n
    · obtain ⟨b, off, x, y, i, z, rfl, hbl, hx, g0, g1, g2, g3⟩ := at4 (HL.out _ HR.out) (Below.refl _ _) hlt
      have HX := Lib.hid (takesP_next (s := s) (is, mv) hx)
      have hbd := takesP_bd s (ls.take k) (is, mv) 96 hl
      have hbl2 : ((ls.take k).length : Int) * 96 ≤ 12 * 96 := Int.mul_le_mul_of_nonneg_right (by have := List.length_take_le k ls; omega) (by omega)
      have e12 : (12 : Int) * 96 = 1152 := by decide
      obtain ⟨d1, d2, d3⟩ := hbd
      simp only at d2 d3
      have htk : ∀ W, Stk B W q (takesP s (ls.take k) (is, mv)).1 (takesP s (ls.take k) (is, mv)).2 → B ≤ W.heap.size →
          Calls Try.prog 89 #[.pointer (some ⟨q, 0, none⟩), .int .i64 i] W fun e w' => e = .returned (.tuple #[]) ∧ Stk B w' q (takeI (takesP s (ls.take k) (is, mv)) i).1 (takeI (takesP s (ls.take k) (is, mv)) i).2 ∧ Below B W w' :=
        fun W hW hBW => take_any B q (takesP s (ls.take k) (is, mv)).1 (takesP s (ls.take k) (is, mv)).2 i W hW (by omega) (by omega) (by omega) hBW
      have HTK := Lib.hid htk
      clear hx htk hbl2 e12 d1 d2 d3
      by_cases he : y = s
      · have e1 : (y == s) = true := by simpa using he
        have HE := Lib.hid he
        clear he
        go_wp2_with fail
        refine (HTK.out _ (HT.out.below (below_alloc (Below.refl _ _) _)) (by simp; omega)).mono ?_
        rintro e w2 ⟨rfl, hst2, hb2⟩
        have HT2 := Lib.hid hst2
        have HB2 := Lib.hid ((HR.out.alloc hBr _).trans hb2)
        clear hst2 hb2
        go_wp2
        go_roundw
        case rel => exact ⟨k + 1, by omega, by go_num, by rw [HX.out, takeStep, if_pos HE.out]; exact HT2.out, HB2.out⟩
        case measure => simp [intOf]; omega
      · have e1 : (y == s) = false := by simpa using he
        have HE := Lib.hid he
        clear he
        go_wp2
        go_roundw
        case rel => exact ⟨k + 1, by omega, by go_num, by rw [HX.out, takeStep, if_neg HE.out]; exact HT.out.below (below_alloc (Below.refl _ _) _), HR.out.alloc hBr _⟩
        case measure => simp [intOf]; omega
    · have hx : ls.take k = ls := List.take_of_length_le (by have := HN.out; omega)
      rw [hx] at HT
      clear hx
      have hbd := takesP_bd s ls (is, mv) 96 hl
      obtain ⟨d1, d2, d3⟩ := hbd
      clear d2 d3
      have HST : Hid (stopI ls s (is, mv) = (putsP s ls (takesP s ls (is, mv)).1, (takesP s ls (is, mv)).2)) := rfl
      generalize takesP s ls (is, mv) = st at *
      go_wp2
      go_loopw [28, 9] (fun i _ wp => ∃ k : Nat, k ≤ n ∧ i = .int .i64 k ∧ Stk B wp q (putsP s (ls.take k) st.1) st.2 ∧ Below B w wp) (fun i _ _ => n - (intOf i).toNat)
      case atStart => exact ⟨0, by omega, rfl, HT.out, HR.out⟩
      case round =>
        obtain ⟨k2, hk2, rfl, hst, hbp⟩ := hrel
        have HP := Lib.hid hbp
        have HU := Lib.hid hst
        have hBp := Nat.le_trans hB hbp.size
        clear hst hbp
        by_cases hlt2 : k2 < n
        · obtain ⟨b, off, x, y, i, z, rfl, hbl, hx, g0, g1, g2, g3⟩ := at4 (HL.out _ HP.out) (Below.refl _ _) hlt2
          have HX := Lib.hid (putsP_next (s := s) st.1 hx)
          have hpb := putsP_bd s (ls.take k2) st.1
          have hlk := List.length_take_le k2 ls
          have hpt : ∀ W, Stk B W q (putsP s (ls.take k2) st.1) st.2 → B ≤ W.heap.size →
              Calls Try.prog 90 #[.pointer (some ⟨q, 0, none⟩), .agg #[.int .i64 x, .int .i64 y, .int .i64 i, .int .i64 z]] W fun e w' => e = .returned (.tuple #[]) ∧ Stk B w' q (putsP s (ls.take k2) st.1 ++ [i]) st.2 ∧ Below B W w' :=
            fun W hW hBW => put_any B q (putsP s (ls.take k2) st.1) st.2 x y i z W hW (by omega) hBW
          have HPT := Lib.hid hpt
          clear hx hpt hpb hlk
          by_cases he : x = s
          · have e1 : (x == s) = true := by simpa using he
            have HE := Lib.hid he
            clear he
            go_wp2_with fail
            refine (HPT.out _ (HU.out.below (below_alloc (Below.refl _ _) _)) (by simp; omega)).mono ?_
            rintro e w2 ⟨rfl, hst2, hb2⟩
            have HT2 := Lib.hid hst2
            have HB2 := Lib.hid ((HP.out.alloc hBp _).trans hb2)
            clear hst2 hb2
            go_wp2
            go_roundw
            case rel => exact ⟨k2 + 1, by omega, by go_num, by rw [HX.out, putStep, if_pos HE.out]; exact HT2.out, HB2.out⟩
            case measure => simp [intOf]; omega
          · have e1 : (x == s) = false := by simpa using he
            have HE := Lib.hid he
            clear he
            go_wp2
            go_roundw
            case rel => exact ⟨k2 + 1, by omega, by go_num, by rw [HX.out, putStep, if_neg HE.out]; exact HU.out.below (below_alloc (Below.refl _ _) _), HP.out.alloc hBp _⟩
            case measure => simp [intOf]; omega
        · have hx : ls.take k2 = ls := List.take_of_length_le (by have := HN.out; omega)
          rw [hx] at HU
          clear hx
          go_wp2
          go_end0
          exact ⟨rfl, by rw [HST.out]; exact HU.out, HP.out⟩

set_option maxRecDepth 20000 in
set_option maxHeartbeats 1600000 in
theorem stackAt_any (A : Option Addr) (n : Nat) (len cap : Nat) (xs : List T3) (w : World) (h : SlE 3 enc3 w A len xs) (hlen : len ≤ 12) (hn : n ≤ 7) :
    Calls Try.prog 72 #[.slice A len cap, .int .i64 n] w fun e w' => ∃ B q, e = .returned (.pointer (some ⟨q, 0, none⟩)) ∧ w.heap.size ≤ B ∧ Stk B w' q (runI (packs xs) (n + 1)).1 (runI (packs xs) (n + 1)).2 ∧ Below w.heap.size w w' := by
  have H := Lib.hid h
  clear h
  go_enter Try.func72, Try.ntmps72
  go_wp2_with fail
  refine (packetsOf_any A len cap xs w H.out (by omega)).mono ?_
  rintro e w1 ⟨v, rfl, hown, hb1⟩
  obtain ⟨A1, c1, rfl, hs1, hc1⟩ := hown.slc enc4_len (by rw [packs_len, H.out.len])
  have HB1 := Lib.hid hb1
  have HS1 := Lib.hid hs1
  have hsz := hb1.size
  have HT0 := Lib.hid (show Stk w1.heap.size (w1.alloc (.cells #[.slice none 0 0, .int .i64 0] 70)) w1.heap.size (runI (packs xs) 0).1 (runI (packs xs) 0).2 from
    ⟨Nat.le_refl _, none, 0, 0, [], heap_alloc_new w1 _, ⟨rfl, .inl ⟨rfl, rfl⟩⟩, rfl, Nat.le_refl _, rfl⟩)
  have HL := Lib.hid (fun w' (hw : Below w1.heap.size (w1.alloc (.cells #[.slice none 0 0, .int .i64 0] 70)) w') => hs1.below ((below_alloc (Below.refl w1.heap.size w1) _).trans hw))
  have HPL := Lib.hid (packs_len xs)
  have HXL := Lib.hid H.out.len
  clear hown hs1 hb1
  go_wp2
  go_loopw [7] (fun i wr => ∃ k : Nat, k ≤ n + 1 ∧ i = .int .i64 k ∧ Stk w1.heap.size wr w1.heap.size (runI (packs xs) k).1 (runI (packs xs) k).2 ∧ Below w1.heap.size (w1.alloc (.cells #[.slice none 0 0, .int .i64 0] 70)) wr) (fun i _ => n + 1 - (intOf i).toNat)
  case atStart => exact ⟨0, by omega, rfl, HT0.out, Below.refl _ _⟩
  case round =>
    obtain ⟨k, hk, rfl, hst, hbr⟩ := hrel
    have HR := Lib.hid hbr
    have HT := Lib.hid hst
    have hBr : w1.heap.size ≤ wr.heap.size := Nat.le_trans (by simp) hbr.size
    clear hst hbr
    by_cases hlt : k ≤ n
    · have hbd := runI_bd (packs xs) (by rw [HPL.out, HXL.out]; exact hlen) k (by omega)
      have hat : ∀ W, Stk w1.heap.size W w1.heap.size (runI (packs xs) k).1 (runI (packs xs) k).2 → Below w1.heap.size wr W → w1.heap.size ≤ W.heap.size →
          Calls Try.prog 85 #[.pointer (some ⟨w1.heap.size, 0, none⟩), .int .i64 k, .slice A1 len c1] W fun e w' => e = .returned (.tuple #[]) ∧ Stk w1.heap.size w' w1.heap.size (runI (packs xs) (k + 1)).1 (runI (packs xs) (k + 1)).2 ∧ Below w1.heap.size W w' :=
        fun W hW hb hBW => stopAt_any w1.heap.size w1.heap.size (runI (packs xs) k).1 (runI (packs xs) k).2 k A1 len c1 (packs xs) W hW (fun w' hw => HL.out w' ((HR.out.trans hb).trans hw)) hlen (by omega) (by omega) (by omega) hBW
      have HAT := Lib.hid hat
      clear hat hbd
      go_wp2_with fail
      refine (HAT.out _ HT.out (Below.refl _ _) hBr).mono ?_
      rintro e w2 ⟨rfl, hst2, hb2⟩
      have HT2 := Lib.hid hst2
      have HB2 := Lib.hid (HR.out.trans hb2)
      clear hst2 hb2
      go_wp2
      go_roundw
      case rel => exact ⟨k + 1, by omega, by go_num, HT2.out, HB2.out⟩
      case measure => simp [intOf]; omega
    · have hx : k = n + 1 := by omega
      subst hx
      go_wp2
      go_ret
      exact ⟨w1.heap.size, w1.heap.size, rfl, hsz, HT.out, below_trans HB1.out ((below_alloc (Below.refl _ w1) _).trans HR.out)⟩
end Go.Proofs.Ytdfgogcefnamcaa
