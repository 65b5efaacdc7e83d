/- Contracts of what the exact laws on bookings share: sizes, copies, comparisons, marks. -/
import Derived.Test.YtkknfhabfmpogaaSBase
import Derived.StillTailTactics
import Derived.Deep.QuietTactic
import Derived.BigQuiet
set_option linter.unusedVariables false
namespace Go.Proofs.Ytkknfhabfmpogaa
open Go.RowKit

theorem flatB_set : ∀ (xs : List B3) (j : Nat) (p : B3), j < xs.length →
    (((xs.flatMap encB).set (j * 3) (.int .i64 p.a)).set (j * 3 + 1) (.int .i64 p.b)).set (j * 3 + 2) (.bool p.c) = (xs.set j p).flatMap encB
  | [], _, _, h => absurd h (by simp)
  | x :: xs, 0, p, _ => by simp [encB]
  | x :: xs, j + 1, p, h => by
    have ih := flatB_set xs j p (by simpa using h)
    have e0 : (j + 1) * 3 = j * 3 + 1 + 1 + 1 := by omega
    simp only [List.flatMap_cons, List.set_cons_succ, ← ih, encB, List.cons_append, List.nil_append, e0]
theorem ownB_set {w : World} {base ty g cap n : Nat} {xs : List B3} (h : OwnE 3 encB ty base w (.slice (some ⟨g, 0, none⟩) n cap) xs) (hn : xs.length = n) {j : Nat} (hj : j < n) (x y : Int) (z : Bool) :
    OwnE 3 encB ty base (((w.setCell ⟨g, j * 3, none⟩ (.int .i64 x)).setCell ⟨g, j * 3 + 1, none⟩ (.int .i64 y)).setCell ⟨g, j * 3 + 2, none⟩ (.bool z)) (.slice (some ⟨g, 0, none⟩) n cap) (xs.set j ⟨x, y, z⟩) ∧
      w.grownBy (((w.setCell ⟨g, j * 3, none⟩ (.int .i64 x)).setCell ⟨g, j * 3 + 1, none⟩ (.int .i64 y)).setCell ⟨g, j * 3 + 2, none⟩ (.bool z)) (some g) := by
  subst hn
  have h1 := World.ownsRow.stored h (j * 3) (.int .i64 x)
  have h2 := World.ownsRow.stored h1.1 (j * 3 + 1) (.int .i64 y)
  have h3 := World.ownsRow.stored h2.1 (j * 3 + 2) (.bool z)
  refine ⟨?_, grown_trans (grown_trans h1.2 h2.2) h3.2⟩
  unfold OwnE
  rw [List.length_set, ← flatB_set xs j ⟨x, y, z⟩ hj]
  exact h3.1
theorem madeB (n : Nat) : (madeCells #[.int .i64 0, .int .i64 0, .bool false] (n * 3)).toList = (List.replicate n (⟨0, 0, false⟩ : B3)).flatMap encB := by
  apply List.ext_getElem?
  intro j
  by_cases hj : j < n * 3
  · have h1 : (List.replicate n (⟨0, 0, false⟩ : B3))[j / 3]? = some ⟨0, 0, false⟩ := by rw [List.getElem?_replicate, if_pos (by omega)]
    have hm : j % 3 = 0 ∨ j % 3 = 1 ∨ j % 3 = 2 := by omega
    obtain ⟨u, h2⟩ : ∃ u, (encB ⟨0, 0, false⟩)[j % 3]? = some u := by rcases hm with h | h | h <;> rw [h] <;> exact ⟨_, rfl⟩
    have h3 := flat_at encB_len _ _ _ h1 _ _ h2
    have e : j / 3 * 3 + j % 3 = j := by omega
    rw [e] at h3
    rw [h3, ← h2]
    have h4 : (madeCells #[.int .i64 0, .int .i64 0, .bool false] (n * 3))[j]? = (encB ⟨0, 0, false⟩)[j % 3]? := by
      rcases hm with h | h | h <;> simp [madeCells, hj, h, encB]
    simpa using h4
  · have h1 : (madeCells #[.int .i64 0, .int .i64 0, .bool false] (n * 3)).toList.length = n * 3 := by simp [madeCells]
    rw [List.getElem?_eq_none (by rw [h1]; omega), List.getElem?_eq_none (by rw [flat_len encB_len, List.length_replicate]; omega)]
def marksB (s : Int) (n : Nat) : List B3 := (List.range n).map fun (j : Nat) => ⟨s + 3 * (j : Int), s + 3 * (j : Int) + 1, (s + 3 * (j : Int) + 1 + 1) % 3 == 0⟩
theorem marksB_len (s : Int) (n : Nat) : (marksB s n).length = n := by simp [marksB]
theorem marksB_step (s : Int) (xs : List B3) (k : Nat) (h : k < xs.length) : (marksB s k ++ xs.drop k).set k ⟨s + 3 * (k : Int), s + 3 * (k : Int) + 1, (s + 3 * (k : Int) + 1 + 1) % 3 == 0⟩ = marksB s (k + 1) ++ xs.drop (k + 1) := by
  have h1 := set_mid (marksB s k) (xs.drop k) _ ⟨s + 3 * (k : Int), s + 3 * (k : Int) + 1, (s + 3 * (k : Int) + 1 + 1) % 3 == 0⟩ _ (List.drop_eq_getElem_cons h)
  rw [marksB_len] at h1
  rw [h1]
  simp [marksB, List.range_succ]
theorem info_booking : (Try.prog.info? 28).map (fun i => (i.zero, i.size, i.bytes)) = some (some (.agg #[.int .i64 0, .int .i64 0, .bool false]), 3, 24) := by kernel_rfl

set_option maxRecDepth 20000 in
set_option maxHeartbeats 400000 in
theorem szBookingS_yes (A : Option Addr) (n cap : Nat) (l : Int) (w : World) (hn : (n : Int) ≤ l) (hl : l ≤ 1048576) :
    Calls Try.prog 13 #[.slice A n cap, .int .i64 l] w (Same (.int .i64 (l - n)) w) := by
  go_enter Try.func13, Try.ntmps13
  go_wp2
  go_ret
  exact ⟨rfl, rfl⟩
set_option maxRecDepth 20000 in
set_option maxHeartbeats 400000 in
theorem szBookingS_no (A : Option Addr) (n cap : Nat) (l : Int) (w : World) (hn : l < (n : Int)) (h0 : 0 ≤ l) (hl : l ≤ 1048576) (hm : n ≤ 9223372036854775807) :
    Calls Try.prog 13 #[.slice A n cap, .int .i64 l] w (Same (.int .i64 (-1)) w) := by
  go_enter Try.func13, Try.ntmps13
  go_wp2
  go_ret
  exact ⟨rfl, rfl⟩

set_option maxRecDepth 20000 in
set_option maxHeartbeats 400000 in
theorem toBooking_any (x y : Int) (z : Bool) (w : World) :
    Calls Try.prog 49 #[.agg #[.int .i64 x, .int .i64 y, .bool z]] w (Only (.agg #[.int .i64 x, .int .i64 y, .bool z]) w) := by
  go_enter Try.func49, Try.ntmps49
  go_wp2
  refine bodyPost_ret (v := .agg #[.int .i64 x, .int .i64 y, .bool z]) (by simp [results, Try.results49, go_sem]) rfl ⟨rfl, below_alloc (below_alloc (below_alloc (Below.refl _ _) _) _) _⟩

set_option maxRecDepth 20000 in
set_option maxHeartbeats 400000 in
theorem eqBooking_any (x y : Int) (z : Bool) (x' y' : Int) (z' : Bool) (w : World) :
    Calls Try.prog 50 #[.agg #[.int .i64 x, .int .i64 y, .bool z], .agg #[.int .i64 x', .int .i64 y', .bool z']] w (OnlyB (x = x' ∧ y = y' ∧ z = z') w) := by
  by_cases h1 : x = x'
  · subst h1
    by_cases h2 : y = y'
    · subst h2
      by_cases h3 : z = z'
      · subst h3
        go_enter Try.func50, Try.ntmps50
        go_wp2
        go_ret
        exact onlyB_true (by simp) (below_alloc (below_alloc (Below.refl _ _) _) _)
      · have H := Lib.hid h3
        have h3' : (z == z') = false := by simpa using h3
        have h4' : (z != z') = true := by simpa using h3
        clear h3
        go_enter Try.func50, Try.ntmps50
        go_wp2
        go_ret
        exact onlyB_false (fun h => H.out h.2.2) (below_alloc (below_alloc (Below.refl _ _) _) _)
    · have H := Lib.hid h2
      have h3' : (y == y') = false := by simpa using h2
      have h4' : (y != y') = true := by simpa using h2
      clear h2
      go_enter Try.func50, Try.ntmps50
      go_wp2
      go_ret
      exact onlyB_false (fun h => H.out h.2.1) (below_alloc (below_alloc (Below.refl _ _) _) _)
  · have H := Lib.hid h1
    have h3' : (x == x') = false := by simpa using h1
    have h4' : (x != x') = true := by simpa using h1
    clear h1
    go_enter Try.func50, Try.ntmps50
    go_wp2
    go_ret
    exact onlyB_false (fun h => H.out h.1) (below_alloc (below_alloc (Below.refl _ _) _) _)

set_option maxRecDepth 20000 in
set_option maxHeartbeats 400000 in
theorem eqBookingS_any (A B : Option Addr) (n m c d : Nat) (xs ys : List B3) (w : World) (hx : SlE 3 encB w A n xs) (hy : SlE 3 encB w B m ys) (hn : n ≤ 16777216) (hm : m ≤ 16777216) :
    Calls Try.prog 18 #[.slice A n c, .slice B m d] w (OnlyB (xs = ys) w) := by
  have HX := Lib.hid hx
  have HY := Lib.hid hy
  clear hx hy
  by_cases hnm : n = m
  · subst hnm
    go_enter Try.func18, Try.ntmps18
    go_wp2
    go_loopw [5] (fun i wr => ∃ k : Nat, k ≤ n ∧ i = .int .i64 k ∧ xs.take k = ys.take k ∧ Below w.heap.size w wr) (fun i _ => n - (intOf i).toNat)
    case atStart => exact ⟨0, by omega, rfl, rfl, Below.refl _ _⟩
    case round =>
      obtain ⟨k, hk, rfl, hall, hbr⟩ := hrel
      have HR := Lib.hid hbr
      have HA := Lib.hid hall
      clear hbr hall
      by_cases hlt : k < n
      · obtain ⟨b, off, x, y, z, rfl, hbl, hx, hd, h0, h1, h2⟩ := atB HX.out HR.out hlt
        obtain ⟨b', off', x', y', z', rfl, hbl', hx', hd', h0', h1', h2'⟩ := atB HY.out HR.out hlt
        have HP := Lib.hid hx
        have HP' := Lib.hid hx'
        clear hx hd hx' hd'
        by_cases he : x = x' ∧ y = y' ∧ z = z'
        · obtain ⟨rfl, rfl, rfl⟩ := he
          go_wp2_with fail
          go_still_tail 8, (by kernel_rfl)
          change wpList _ _ _ _ _ _
          go_wp2_with (go_at_call 50; refine (eqBooking_any _ _ _ _ _ _ _).mono ?_; intro e w2 hp; obtain ⟨rfl, hb2⟩ := hp.yes ⟨rfl, rfl, rfl⟩; have HN := Lib.hid (below_trans (below_drew HR.out) hb2); clear hb2 hp)
          go_roundw
          case rel => exact ⟨k + 1, by omega, by go_num, by rw [take_next HP.out, take_next HP'.out, HA.out], HN.out⟩
          case measure => simp [intOf]; omega
        · have HE := Lib.hid he
          clear he
          go_wp2_with fail
          go_still_tail 8, (by kernel_rfl)
          change wpList _ _ _ _ _ _
          go_wp2_with (go_at_call 50; refine (eqBooking_any _ _ _ _ _ _ _).mono ?_; intro e w2 hp; obtain ⟨rfl, hb2⟩ := hp.no HE.out; have HN := Lib.hid (below_trans (below_drew HR.out) hb2); clear hb2 hp)
          go_ret
          exact onlyB_false (fun h => HE.out (by have h1 := HP.out; rw [h, HP'.out] at h1; injection h1 with h1; injection h1 with a b c; exact ⟨a.symm, b.symm, c.symm⟩)) HN.out
      · have hx : xs.take k = xs := List.take_of_length_le (by have := HX.out.len; omega)
        have hy : ys.take k = ys := List.take_of_length_le (by have := HY.out.len; omega)
        rw [hx, hy] at HA
        clear hx hy
        go_wp2
        go_ret
        exact onlyB_true HA.out HR.out
  · have HE := Lib.hid hnm
    have h3' : ((n : Int) == (m : Int)) = false := by simp; omega
    have h4' : ((n : Int) != (m : Int)) = true := by simp; omega
    clear hnm
    go_enter Try.func18, Try.ntmps18
    go_wp2
    go_ret
    exact onlyB_false (fun h => HE.out (by rw [← HX.out.len, ← HY.out.len, h])) (Below.refl _ _)

set_option maxRecDepth 20000 in
set_option maxHeartbeats 800000 in
theorem toBookingS_any (A : Option Addr) (n cap : Nat) (xs : List B3) (w : World) (h : SlE 3 encB w A n xs) (hn : n ≤ 16777216) :
    Calls Try.prog 15 #[.slice A n cap] w (RetOwn 3 encB 28 xs w) := by
  have H := Lib.hid h
  clear h
  have hmk := fun W => run_make_rowN (P := Try.prog) 23 28 (.agg #[.int .i64 0, .int .i64 0, .bool false]) 3 24 Try.underlying23 info_booking .i64 .i64 n (by omega) (by omega) W
  go_enter Try.func15, Try.ntmps15
  go_wp2
  go_loopw [4] (fun i wr => ∃ k : Nat, k ≤ n ∧ i = .int .i64 k ∧ OwnE 3 encB 28 w.heap.size wr (.slice (some ⟨w.heap.size, 0, none⟩) n n) (xs.take k ++ List.replicate (xs.length - k) ⟨0, 0, false⟩) ∧ Below w.heap.size w wr) (fun i _ => n - (intOf i).toNat)
  case atStart => exact ⟨0, by omega, rfl, own_new w _ _ (Nat.le_refl _) encB_len _ _ (by rw [madeB]; simp [H.out.len]) (by simp [H.out.len, maxLen]; omega) (by simp [H.out.len]), below_alloc (Below.refl _ _) _⟩
  case round =>
    obtain ⟨k, hk, rfl, hown, hbr⟩ := hrel
    have HR := Lib.hid hbr
    have HO := Lib.hid hown
    clear hbr hown hmk
    by_cases hlt : k < n
    · obtain ⟨b, off, x, y, z, rfl, hbl, hx, hd, h0, h1, h2⟩ := atB H.out HR.out hlt
      have HX := Lib.hid hx
      clear hx hd
      have hkl : k < xs.length := by have := H.out.len; omega
      go_wp2_with (go_at_call 49; refine (toBooking_any _ _ _ _).mono ?_; rintro e w2 ⟨rfl, hb2⟩; have HB2 := Lib.hid (below_trans HR.out hb2); have hown2 := HO.out.below hb2 (Nat.le_refl _); have HO2 := Lib.hid hown2; obtain ⟨c0, c1, c2⟩ := hown2.cellB (fill_at _ hkl); have f0 := hown2.frozen; clear hown2 hb2)
      go_roundw
      case rel =>
        have hf := ownB_set HO2.out (by rw [fill_len _ (Nat.le_of_lt hkl), H.out.len]) hlt x y z
        rw [fill_step _ HX.out] at hf
        exact ⟨k + 1, by omega, by go_num, hf.1, HB2.out.grown hf.2 HB2.out.size (fun j hj => by injection hj with hj; omega)⟩
      case measure => simp [intOf]; omega
    · have hx : xs.take k = xs := List.take_of_length_le (by have := H.out.len; omega)
      have hz : xs.length - k = 0 := by have := H.out.len; omega
      rw [hx, hz, List.replicate_zero, List.append_nil] at HO
      clear hx hz
      go_wp2
      go_ret
      exact ⟨_, rfl, HO.out, HR.out⟩

set_option maxRecDepth 20000 in
set_option maxHeartbeats 800000 in
theorem markBookingS_any (A : Option Addr) (n cap base : Nat) (xs : List B3) (s : Int) (w : World) (h : OwnE 3 encB 28 base w (.slice A n cap) xs) (hl : xs.length = n) (hn : n ≤ 16777216) (hs0 : 0 ≤ s) (hs1 : s ≤ 4194304) :
    Calls Try.prog 23 #[.slice A n cap, .int .i64 s] w fun e w' => e = .returned (.int .i64 (s + 3 * (n : Int))) ∧
      OwnE 3 encB 28 base w' (.slice A n cap) (marksB s n) ∧ w.grownBy w' (Value.ownBlock (.slice A n cap)) := by
  have H := Lib.hid h
  have HL := Lib.hid hl
  clear h hl
  go_enter Try.func23, Try.ntmps23
  go_wp2
  go_loopw [5, 1] (fun i q wr => ∃ k : Nat, k ≤ n ∧ i = .int .i64 k ∧ q = .int .i64 (s + 3 * (k : Int)) ∧ OwnE 3 encB 28 base wr (.slice A n cap) (marksB s k ++ xs.drop k) ∧ w.grownBy wr (Value.ownBlock (.slice A n cap))) (fun i _ _ => n - (intOf i).toNat)
  case atStart => exact ⟨0, by omega, rfl, by go_num, H.out, World.grownBy.refl _ _⟩
  case round =>
    obtain ⟨k, hk, rfl, rfl, hown, hbr⟩ := hrel
    have HR := Lib.hid hbr
    by_cases hlt : k < n
    · have hml : (marksB s k ++ xs.drop k).length = n := by rw [List.length_append, marksB_len, List.length_drop]; have := HL.out; omega
      obtain ⟨g, rfl, hnl, hbg, hg, hf⟩ := hown.form (by omega)
      obtain ⟨⟨x, y, z⟩, hp⟩ : ∃ p, (marksB s k ++ xs.drop k)[k]? = some p := ⟨_, List.getElem?_eq_getElem (by omega)⟩
      obtain ⟨c0, c1, c2⟩ := hown.cellB hp
      have HO := Lib.hid hown
      have HM := Lib.hid hml
      clear hown hbr hp hml hnl
      go_wp2
      go_roundw
      case rel =>
        have hf := ownB_set HO.out HM.out hlt (s + 3 * (k : Int)) (s + 3 * (k : Int) + 1) ((s + 3 * (k : Int) + 1 + 1) % 3 == 0)
        rw [marksB_step _ _ _ (by have := HL.out; omega)] at hf
        exact ⟨k + 1, by omega, by go_num, by go_num, hf.1, grown_trans HR.out hf.2⟩
      case measure => simp [intOf]; omega
    · have hkn : k = n := by omega
      have hx : xs.drop k = [] := List.drop_eq_nil_of_le (by have := HL.out; omega)
      rw [hx, List.append_nil] at hown
      have HO := Lib.hid hown
      clear hx hbr hown
      subst hkn
      go_wp2
      go_ret
      exact ⟨rfl, HO.out, HR.out⟩

set_option maxRecDepth 20000 in
set_option maxHeartbeats 800000 in
theorem eqIntS_any (A B : Option Addr) (n m c d : Nat) (xs ys : List Int) (w : World) (hx : SlE 1 encI w A n xs) (hy : SlE 1 encI w B m ys) (hn : n ≤ 16777216) (hm : m ≤ 16777216) :
    Calls Try.prog 19 #[.slice A n c, .slice B m d] w (OnlyB (xs = ys) w) := by
  have HX := Lib.hid hx
  have HY := Lib.hid hy
  clear hx hy
  by_cases hnm : n = m
  · subst hnm
    go_enter Try.func19, Try.ntmps19
    go_wp2
    go_loopw [5] (fun i wr => ∃ k : Nat, k ≤ n ∧ i = .int .i64 k ∧ xs.take k = ys.take k ∧ Below w.heap.size w wr) (fun i _ => n - (intOf i).toNat)
    case atStart => exact ⟨0, by omega, rfl, rfl, Below.refl _ _⟩
    case round =>
      obtain ⟨k, hk, rfl, hall, hbr⟩ := hrel
      have HR := Lib.hid hbr
      have HA := Lib.hid hall
      clear hbr hall
      by_cases hlt : k < n
      · obtain ⟨b, off, x, rfl, hbl, hx, hd, h0⟩ := at1 HX.out HR.out hlt
        obtain ⟨b', off', x', rfl, hbl', hx', hd', h0'⟩ := at1 HY.out HR.out hlt
        have HP := Lib.hid hx
        have HP' := Lib.hid hx'
        clear hx hd hx' hd'
        by_cases he : x = x'
        · subst he
          go_wp2_with fail
          go_quiet (fail)
          go_wp2
          go_roundw
          case rel => exact ⟨k + 1, by omega, by go_num, by rw [take_next HP.out, take_next HP'.out, HA.out], below_drewN HR.out _⟩
          case measure => simp [intOf]; omega
        · have HE := Lib.hid he
          have h3' : (x == x') = false := by simpa using he
          have h4' : (x != x') = true := by simpa using he
          clear he
          go_wp2_with fail
          go_quiet (fail)
          go_wp2
          go_ret
          exact onlyB_false (fun h => HE.out (by have h1 := HP.out; rw [h, HP'.out] at h1; injection h1 with h1; exact h1.symm)) (below_drewN HR.out _)
      · have hx : xs.take k = xs := List.take_of_length_le (by have := HX.out.len; omega)
        have hy : ys.take k = ys := List.take_of_length_le (by have := HY.out.len; omega)
        rw [hx, hy] at HA
        clear hx hy
        go_wp2
        go_ret
        exact onlyB_true HA.out HR.out
  · have HE := Lib.hid hnm
    have h3' : ((n : Int) == (m : Int)) = false := by simp; omega
    have h4' : ((n : Int) != (m : Int)) = true := by simp; omega
    clear hnm
    go_enter Try.func19, Try.ntmps19
    go_wp2
    go_ret
    exact onlyB_false (fun h => HE.out (by rw [← HX.out.len, ← HY.out.len, h])) (Below.refl _ _)

set_option maxRecDepth 20000 in
set_option maxHeartbeats 800000 in
theorem markIntS_any (A : Option Addr) (n cap base : Nat) (xs : List Int) (s : Int) (w : World) (h : OwnE 1 encI 3 base w (.slice A n cap) xs) (hl : xs.length = n) (hn : n ≤ 16777216) (hs0 : 0 ≤ s) (hs1 : s ≤ 4194304) :
    Calls Try.prog 24 #[.slice A n cap, .int .i64 s] w fun e w' => e = .returned (.int .i64 (s + (n : Int))) ∧
      OwnE 1 encI 3 base w' (.slice A n cap) (marks1 s n) ∧ w.grownBy w' (Value.ownBlock (.slice A n cap)) := by
  have H := Lib.hid h
  have HL := Lib.hid hl
  clear h hl
  go_enter Try.func24, Try.ntmps24
  go_wp2
  go_loopw [5, 1] (fun i q wr => ∃ k : Nat, k ≤ n ∧ i = .int .i64 k ∧ q = .int .i64 (s + (k : Int)) ∧ OwnE 1 encI 3 base wr (.slice A n cap) (marks1 s k ++ xs.drop k) ∧ w.grownBy wr (Value.ownBlock (.slice A n cap))) (fun i _ _ => n - (intOf i).toNat)
  case atStart => exact ⟨0, by omega, rfl, by go_num, H.out, World.grownBy.refl _ _⟩
  case round =>
    obtain ⟨k, hk, rfl, rfl, hown, hbr⟩ := hrel
    have HR := Lib.hid hbr
    by_cases hlt : k < n
    · have hml : (marks1 s k ++ xs.drop k).length = n := by rw [List.length_append, marks1_len, List.length_drop]; have := HL.out; omega
      obtain ⟨g, rfl, hnl, hbg, hg, hf⟩ := hown.form (by omega)
      obtain ⟨x, hp⟩ : ∃ p, (marks1 s k ++ xs.drop k)[k]? = some p := ⟨_, List.getElem?_eq_getElem (by omega)⟩
      have c0 := hown.cell1 hp
      have HO := Lib.hid hown
      have HM := Lib.hid hml
      clear hown hbr hp hml hnl
      go_wp2
      go_roundw
      case rel =>
        have hf := own1_set HO.out HM.out k (s + (k : Int))
        rw [marks1_step _ _ _ (by have := HL.out; omega)] at hf
        exact ⟨k + 1, by omega, by go_num, by go_num, hf.1, grown_trans HR.out hf.2⟩
      case measure => simp [intOf]; omega
    · have hkn : k = n := by omega
      have hx : xs.drop k = [] := List.drop_eq_nil_of_le (by have := HL.out; omega)
      rw [hx, List.append_nil] at hown
      have HO := Lib.hid hown
      clear hx hbr hown
      subst hkn
      go_wp2
      go_ret
      exact ⟨rfl, HO.out, HR.out⟩

set_option maxRecDepth 20000 in
set_option maxHeartbeats 800000 in
theorem heldIntS_any (A : Option Addr) (n cap : Nat) (s : Int) (w : World) (h : SlE 1 encI w A n (marks1 s n)) (hn : n ≤ 16777216) (hs0 : 0 ≤ s) (hs1 : s ≤ 4194304) :
    Calls Try.prog 25 #[.slice A n cap, .int .i64 s] w (Same (.int .i64 (s + (n : Int))) w) := by
  have H := Lib.hid h
  clear h
  go_enter Try.func25, Try.ntmps25
  go_wp2
  go_loop [5, 1] (fun i q => ∃ k : Nat, k ≤ n ∧ i = .int .i64 k ∧ q = .int .i64 (s + (k : Int))) (fun i _ => n - (intOf i).toNat)
  case atStart => exact ⟨0, by omega, rfl, by go_num⟩
  case round =>
    obtain ⟨k, hk, rfl, rfl⟩ := hrel
    by_cases hlt : k < n
    · obtain ⟨b, off, x, rfl, hbl, hx, hd, h0⟩ := at1 H.out (Below.refl _ w) hlt
      rw [marks1_at hlt] at hx
      injection hx with hx
      subst hx
      clear hd
      go_wp2
      go_round
      case rel => exact ⟨k + 1, by omega, by go_num, by go_num⟩
      case measure => simp [intOf]; omega
    · have hkn : k = n := by omega
      subst hkn
      go_wp2
      go_ret
      exact ⟨rfl, rfl⟩
theorem info_intN : (Try.prog.info? 3).map (fun i => (i.zero, i.size, i.bytes)) = some (some (.int .i64 0), 1, 8) := by kernel_rfl
theorem made1 (n : Nat) : (madeCells #[.int .i64 0] n).toList = (List.replicate n (0 : Int)).flatMap encI := by
  apply List.ext_getElem?
  intro j
  by_cases hj : j < n
  · have h3 := flat_at encI_len (List.replicate n (0 : Int)) j 0 (by rw [List.getElem?_replicate, if_pos hj]) 0 (.int .i64 0) rfl
    rw [Nat.mul_one, Nat.add_zero] at h3
    rw [h3]
    have h4 : (madeCells #[.int .i64 0] n)[j]? = some (.int .i64 0) := by simp [madeCells, hj, Nat.mod_one]
    simpa using h4
  · have h1 : (madeCells #[.int .i64 0] n).toList.length = n := by simp [madeCells]
    rw [List.getElem?_eq_none (by rw [h1]; omega), List.getElem?_eq_none (by rw [flat_len encI_len, List.length_replicate]; omega)]
set_option maxRecDepth 20000 in
set_option maxHeartbeats 800000 in
theorem toIntS_any (A : Option Addr) (n cap : Nat) (xs : List Int) (w : World) (h : SlE 1 encI w A n xs) (hn : n ≤ 16777216) :
    Calls Try.prog 16 #[.slice A n cap] w (RetOwn 1 encI 3 xs w) := by
  have H := Lib.hid h
  clear h
  have hmk := fun W => run_make_rowN (P := Try.prog) 29 3 (.int .i64 0) 1 8 Try.underlying29 info_intN .i64 .i64 n (by omega) (by omega) W
  go_enter Try.func16, Try.ntmps16
  go_wp2
  go_loopw [4] (fun i wr => ∃ k : Nat, k ≤ n ∧ i = .int .i64 k ∧ OwnE 1 encI 3 w.heap.size wr (.slice (some ⟨w.heap.size, 0, none⟩) n n) (xs.take k ++ List.replicate (xs.length - k) 0) ∧ Below w.heap.size w wr) (fun i _ => n - (intOf i).toNat)
  case atStart => exact ⟨0, by omega, rfl, own_new w _ _ (Nat.le_refl _) encI_len _ _ (by rw [made1]; simp [H.out.len]) (by simp [H.out.len, maxLen]; omega) (by simp [H.out.len]), below_alloc (Below.refl _ _) _⟩
  case round =>
    obtain ⟨k, hk, rfl, hown, hbr⟩ := hrel
    have HR := Lib.hid hbr
    have HO := Lib.hid hown
    by_cases hlt : k < n
    · obtain ⟨b, off, x, rfl, hbl, hx, hd, h0⟩ := at1 H.out HR.out hlt
      have HX := Lib.hid hx
      have hkl : k < xs.length := by have := H.out.len; omega
      have c0 := hown.cell1 (fill_at _ hkl)
      have f0 := hown.frozen
      clear hx hd hbr hown hmk
      go_wp2
      go_roundw
      case rel =>
        have hf := own1_set HO.out (by rw [fill_len _ (Nat.le_of_lt hkl), H.out.len]) k x
        rw [fill_step _ HX.out] at hf
        exact ⟨k + 1, by omega, by go_num, hf.1, HR.out.grown hf.2 HR.out.size (fun j hj => by injection hj with hj; omega)⟩
      case measure => simp [intOf]; omega
    · have hx : xs.take k = xs := List.take_of_length_le (by have := H.out.len; omega)
      have hz : xs.length - k = 0 := by have := H.out.len; omega
      rw [hx, hz, List.replicate_zero, List.append_nil] at HO
      clear hx hz hbr hown hmk
      go_wp2
      go_ret
      exact ⟨_, rfl, HO.out, HR.out⟩
end Go.Proofs.Ytkknfhabfmpogaa
