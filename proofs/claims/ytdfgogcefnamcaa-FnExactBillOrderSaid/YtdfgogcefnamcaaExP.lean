/- Contracts of what the exact laws share: sizes, copies, comparisons, marks. -/
import Derived.Test.YtdfgogcefnamcaaOwn
import Derived.StillTailTactics
import Derived.Deep.QuietTactic
import Derived.BigQuiet
set_option linter.unusedVariables false
namespace Go.Proofs.Ytdfgogcefnamcaa
open Go.RowKit

theorem info_parcel : (Try.prog.info? 28).map (fun i => (i.zero, i.size, i.bytes)) = some (some (.agg #[.int .i64 0, .int .i64 0, .int .i64 0]), 3, 24) := by kernel_rfl

set_option maxRecDepth 20000 in
set_option maxHeartbeats 400000 in
theorem szParcelS_yes (A : Option Addr) (n cap : Nat) (l : Int) (w : World) (hn : (n : Int) ≤ l) (hl : l ≤ 1048576) :
    Calls Try.prog 57 #[.slice A n cap, .int .i64 l] w (Same (.int .i64 (l - n)) w) := by
  go_enter Try.func57, Try.ntmps57
  go_wp2
  go_ret
  exact ⟨rfl, rfl⟩
set_option maxRecDepth 20000 in
set_option maxHeartbeats 400000 in
theorem szParcelS_no (A : Option Addr) (n cap : Nat) (l : Int) (w : World) (hn : l < (n : Int)) (h0 : 0 ≤ l) (hl : l ≤ 1048576) (hm : n ≤ 9223372036854775807) :
    Calls Try.prog 57 #[.slice A n cap, .int .i64 l] w (Same (.int .i64 (-1)) w) := by
  go_enter Try.func57, Try.ntmps57
  go_wp2
  go_ret
  exact ⟨rfl, rfl⟩

set_option maxRecDepth 20000 in
set_option maxHeartbeats 400000 in
theorem toParcel_any (x y z : Int) (w : World) :
    Calls Try.prog 81 #[.agg #[.int .i64 x, .int .i64 y, .int .i64 z]] w (Only (.agg #[.int .i64 x, .int .i64 y, .int .i64 z]) w) := by
  go_enter Try.func81, Try.ntmps81
  go_wp2
  refine bodyPost_ret (v := .agg #[.int .i64 x, .int .i64 y, .int .i64 z]) (by simp [results, Try.results81, go_sem]) rfl ⟨rfl, below_alloc (below_alloc (below_alloc (Below.refl _ _) _) _) _⟩

set_option maxRecDepth 20000 in
set_option maxHeartbeats 400000 in
theorem eqParcel_any (x y z x' y' z' : Int) (w : World) :
    Calls Try.prog 82 #[.agg #[.int .i64 x, .int .i64 y, .int .i64 z], .agg #[.int .i64 x', .int .i64 y', .int .i64 z']] w (OnlyB (x = x' ∧ y = y' ∧ z = z') w) := by
  by_cases h1 : x = x'
  · subst h1
    by_cases h2 : y = y'
    · subst h2
      by_cases h3 : z = z'
      · subst h3
        go_enter Try.func82, Try.ntmps82
        go_wp2
        go_ret
        exact onlyB_true (by simp) (below_alloc (below_alloc (Below.refl _ _) _) _)
      · have H := Lib.hid h3
        have h3' : (z == z') = false := by simpa using h3
        have h4' : (z != z') = true := by simpa using h3
        clear h3
        go_enter Try.func82, Try.ntmps82
        go_wp2
        go_ret
        exact onlyB_false (fun h => H.out h.2.2) (below_alloc (below_alloc (Below.refl _ _) _) _)
    · have H := Lib.hid h2
      have h3' : (y == y') = false := by simpa using h2
      have h4' : (y != y') = true := by simpa using h2
      clear h2
      go_enter Try.func82, Try.ntmps82
      go_wp2
      go_ret
      exact onlyB_false (fun h => H.out h.2.1) (below_alloc (below_alloc (Below.refl _ _) _) _)
  · have H := Lib.hid h1
    have h3' : (x == x') = false := by simpa using h1
    have h4' : (x != x') = true := by simpa using h1
    clear h1
    go_enter Try.func82, Try.ntmps82
    go_wp2
    go_ret
    exact onlyB_false (fun h => H.out h.1) (below_alloc (below_alloc (Below.refl _ _) _) _)

set_option maxRecDepth 20000 in
set_option maxHeartbeats 400000 in
theorem eqParcelS_any (A B : Option Addr) (n m c d : Nat) (xs ys : List T3) (w : World) (hx : SlE 3 enc3 w A n xs) (hy : SlE 3 enc3 w B m ys) (hn : n ≤ 16777216) (hm : m ≤ 16777216) :
    Calls Try.prog 59 #[.slice A n c, .slice B m d] w (OnlyB (xs = ys) w) := by
  have HX := Lib.hid hx
  have HY := Lib.hid hy
  clear hx hy
  by_cases hnm : n = m
  · subst hnm
    go_enter Try.func59, Try.ntmps59
    go_wp2
    go_loopw [5] (fun i wr => ∃ k : Nat, k ≤ n ∧ i = .int .i64 k ∧ xs.take k = ys.take k ∧ Below w.heap.size w wr) (fun i _ => n - (intOf i).toNat)
    case atStart => exact ⟨0, by omega, rfl, rfl, Below.refl _ _⟩
    case round =>
      obtain ⟨k, hk, rfl, hall, hbr⟩ := hrel
      have HR := Lib.hid hbr
      have HA := Lib.hid hall
      clear hbr hall
      by_cases hlt : k < n
      · obtain ⟨b, off, x, y, z, rfl, hbl, hx, hd, h0, h1, h2⟩ := at3 HX.out HR.out hlt
        obtain ⟨b', off', x', y', z', rfl, hbl', hx', hd', h0', h1', h2'⟩ := at3 HY.out HR.out hlt
        have HP := Lib.hid hx
        have HP' := Lib.hid hx'
        clear hx hd hx' hd'
        by_cases he : x = x' ∧ y = y' ∧ z = z'
        · obtain ⟨rfl, rfl, rfl⟩ := he
          go_wp2_with fail
          go_still_tail 8, (by kernel_rfl)
          change wpList _ _ _ _ _ _
          go_wp2_with (go_at_call 82; refine (eqParcel_any _ _ _ _ _ _ _).mono ?_; intro e w2 hp; obtain ⟨rfl, hb2⟩ := hp.yes ⟨rfl, rfl, rfl⟩; have HN := Lib.hid (below_trans (below_drew HR.out) hb2); clear hb2 hp)
          go_roundw
          case rel => exact ⟨k + 1, by omega, by go_num, by rw [take_next HP.out, take_next HP'.out, HA.out], HN.out⟩
          case measure => simp [intOf]; omega
        · have HE := Lib.hid he
          clear he
          go_wp2_with fail
          go_still_tail 8, (by kernel_rfl)
          change wpList _ _ _ _ _ _
          go_wp2_with (go_at_call 82; refine (eqParcel_any _ _ _ _ _ _ _).mono ?_; intro e w2 hp; obtain ⟨rfl, hb2⟩ := hp.no HE.out; have HN := Lib.hid (below_trans (below_drew HR.out) hb2); clear hb2 hp)
          go_ret
          exact onlyB_false (fun h => HE.out (by have h1 := HP.out; rw [h, HP'.out] at h1; injection h1 with h1; injection h1 with a b c; exact ⟨a.symm, b.symm, c.symm⟩)) HN.out
      · have hx : xs.take k = xs := List.take_of_length_le (by have := HX.out.len; omega)
        have hy : ys.take k = ys := List.take_of_length_le (by have := HY.out.len; omega)
        rw [hx, hy] at HA
        clear hx hy
        go_wp2
        go_ret
        exact onlyB_true HA.out HR.out
  · have HE := Lib.hid hnm
    have h3' : ((n : Int) == (m : Int)) = false := by simp; omega
    have h4' : ((n : Int) != (m : Int)) = true := by simp; omega
    clear hnm
    go_enter Try.func59, Try.ntmps59
    go_wp2
    go_ret
    exact onlyB_false (fun h => HE.out (by rw [← HX.out.len, ← HY.out.len, h])) (Below.refl _ _)

set_option maxRecDepth 20000 in
set_option maxHeartbeats 800000 in
theorem toParcelS_any (A : Option Addr) (n cap : Nat) (xs : List T3) (w : World) (h : SlE 3 enc3 w A n xs) (hn : n ≤ 16777216) :
    Calls Try.prog 58 #[.slice A n cap] w (RetOwn 3 enc3 28 xs w) := by
  have H := Lib.hid h
  clear h
  have hmk := fun W => run_make_rowN (P := Try.prog) 23 28 (.agg #[.int .i64 0, .int .i64 0, .int .i64 0]) 3 24 Try.underlying23 info_parcel .i64 .i64 n (by omega) (by omega) W
  go_enter Try.func58, Try.ntmps58
  go_wp2
  go_loopw [4] (fun i wr => ∃ k : Nat, k ≤ n ∧ i = .int .i64 k ∧ OwnE 3 enc3 28 w.heap.size wr (.slice (some ⟨w.heap.size, 0, none⟩) n n) (xs.take k ++ List.replicate (xs.length - k) ⟨0, 0, 0⟩) ∧ Below w.heap.size w wr) (fun i _ => n - (intOf i).toNat)
  case atStart => exact ⟨0, by omega, rfl, own_new w _ _ (Nat.le_refl _) enc3_len _ _ (by rw [made3]; simp [H.out.len]) (by simp [H.out.len, maxLen]; omega) (by simp [H.out.len]), below_alloc (Below.refl _ _) _⟩
  case round =>
    obtain ⟨k, hk, rfl, hown, hbr⟩ := hrel
    have HR := Lib.hid hbr
    have HO := Lib.hid hown
    clear hbr hown hmk
    by_cases hlt : k < n
    · obtain ⟨b, off, x, y, z, rfl, hbl, hx, hd, h0, h1, h2⟩ := at3 H.out HR.out hlt
      have HX := Lib.hid hx
      clear hx hd
      have hkl : k < xs.length := by have := H.out.len; omega
      go_wp2_with (go_at_call 81; refine (toParcel_any _ _ _ _).mono ?_; rintro e w2 ⟨rfl, hb2⟩; have HB2 := Lib.hid (below_trans HR.out hb2); have hown2 := HO.out.below hb2 (Nat.le_refl _); have HO2 := Lib.hid hown2; obtain ⟨c0, c1, c2⟩ := hown2.cell3 (fill_at _ hkl); have f0 := hown2.frozen; clear hown2 hb2)
      go_roundw
      case rel =>
        have hf := own3_set HO2.out (by rw [fill_len _ (Nat.le_of_lt hkl), H.out.len]) hlt x y z
        rw [fill_step _ HX.out] at hf
        exact ⟨k + 1, by omega, by go_num, hf.1, HB2.out.grown hf.2 HB2.out.size (fun j hj => by injection hj with hj; omega)⟩
      case measure => simp [intOf]; omega
    · have hx : xs.take k = xs := List.take_of_length_le (by have := H.out.len; omega)
      have hz : xs.length - k = 0 := by have := H.out.len; omega
      rw [hx, hz, List.replicate_zero, List.append_nil] at HO
      clear hx hz
      go_wp2
      go_ret
      exact ⟨_, rfl, HO.out, HR.out⟩

set_option maxRecDepth 20000 in
set_option maxHeartbeats 800000 in
theorem markParcelS_any (A : Option Addr) (n cap base : Nat) (xs : List T3) (s : Int) (w : World) (h : OwnE 3 enc3 28 base w (.slice A n cap) xs) (hl : xs.length = n) (hn : n ≤ 16777216) (hs0 : 0 ≤ s) (hs1 : s ≤ 4194304) :
    Calls Try.prog 60 #[.slice A n cap, .int .i64 s] w fun e w' => e = .returned (.int .i64 (s + 3 * (n : Int))) ∧
      OwnE 3 enc3 28 base w' (.slice A n cap) (marks3 s n) ∧ w.grownBy w' (Value.ownBlock (.slice A n cap)) := by
  have H := Lib.hid h
  have HL := Lib.hid hl
  clear h hl
  go_enter Try.func60, Try.ntmps60
  go_wp2
  go_loopw [5, 1] (fun i q wr => ∃ k : Nat, k ≤ n ∧ i = .int .i64 k ∧ q = .int .i64 (s + 3 * (k : Int)) ∧ OwnE 3 enc3 28 base wr (.slice A n cap) (marks3 s k ++ xs.drop k) ∧ w.grownBy wr (Value.ownBlock (.slice A n cap))) (fun i _ _ => n - (intOf i).toNat)
  case atStart => exact ⟨0, by omega, rfl, by go_num, H.out, World.grownBy.refl _ _⟩
  case round =>
    obtain ⟨k, hk, rfl, rfl, hown, hbr⟩ := hrel
    have HR := Lib.hid hbr
    by_cases hlt : k < n
    · have hml : (marks3 s k ++ xs.drop k).length = n := by rw [List.length_append, marks3_len, List.length_drop]; have := HL.out; omega
      obtain ⟨g, rfl, hnl, hbg, hg, hf⟩ := hown.form (by omega)
      obtain ⟨⟨x, y, z⟩, hp⟩ : ∃ p, (marks3 s k ++ xs.drop k)[k]? = some p := ⟨_, List.getElem?_eq_getElem (by omega)⟩
      obtain ⟨c0, c1, c2⟩ := hown.cell3 hp
      have HO := Lib.hid hown
      have HM := Lib.hid hml
      clear hown hbr hp hml hnl
      go_wp2
      go_roundw
      case rel =>
        have hf := own3_set HO.out HM.out hlt (s + 3 * (k : Int)) (s + 3 * (k : Int) + 1) (s + 3 * (k : Int) + 1 + 1)
        rw [marks3_step _ _ _ (by have := HL.out; omega)] at hf
        exact ⟨k + 1, by omega, by go_num, by go_num, hf.1, grown_trans HR.out hf.2⟩
      case measure => simp [intOf]; omega
    · have hkn : k = n := by omega
      have hx : xs.drop k = [] := List.drop_eq_nil_of_le (by have := HL.out; omega)
      rw [hx, List.append_nil] at hown
      have HO := Lib.hid hown
      clear hx hbr hown
      subst hkn
      go_wp2
      go_ret
      exact ⟨rfl, HO.out, HR.out⟩

set_option maxRecDepth 20000 in
set_option maxHeartbeats 800000 in
theorem heldParcelS_any (A : Option Addr) (n cap : Nat) (s : Int) (w : World) (h : SlE 3 enc3 w A n (marks3 s n)) (hn : n ≤ 16777216) (hs0 : 0 ≤ s) (hs1 : s ≤ 4194304) :
    Calls Try.prog 61 #[.slice A n cap, .int .i64 s] w (Same (.int .i64 (s + 3 * (n : Int))) w) := by
  have H := Lib.hid h
  clear h
  go_enter Try.func61, Try.ntmps61
  go_wp2
  go_loop [5, 1] (fun i q => ∃ k : Nat, k ≤ n ∧ i = .int .i64 k ∧ q = .int .i64 (s + 3 * (k : Int))) (fun i _ => n - (intOf i).toNat)
  case atStart => exact ⟨0, by omega, rfl, by go_num⟩
  case round =>
    obtain ⟨k, hk, rfl, rfl⟩ := hrel
    by_cases hlt : k < n
    · obtain ⟨b, off, x, y, z, rfl, hbl, hx, hd, h0, h1, h2⟩ := at3 H.out (Below.refl _ w) hlt
      rw [marks3_at hlt] at hx
      injection hx with hx
      injection hx with e1 e2 e3
      subst e1 e2 e3
      clear hd
      go_wp2
      go_round
      case rel => exact ⟨k + 1, by omega, by go_num, by go_num⟩
      case measure => simp [intOf]; omega
    · have hkn : k = n := by omega
      subst hkn
      go_wp2
      go_ret
      exact ⟨rfl, rfl⟩

end Go.Proofs.Ytdfgogcefnamcaa
