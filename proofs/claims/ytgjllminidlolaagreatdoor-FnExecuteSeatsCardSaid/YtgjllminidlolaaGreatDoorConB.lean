/- Contracts: slices.Grow of nil and slices.Concat, at []impl.Booking. -/
import Derived.Test.YtgjllminidlolaaGreatDoorCat
import Derived.Test.YtgjllminidlolaaGreatDoorSBase
set_option linter.unusedVariables false
namespace Go.Proofs.YtgjllminidlolaaGreatDoor
open Go.RowKit

theorem info_conB : (Tryz.prog.info? 34).map (fun i => (i.zero, i.size, i.bytes)) = some (some (.agg #[.int .i64 0, .int .i64 0, .bool false]), 3, 24) := by kernel_rfl

set_option maxRecDepth 20000 in
set_option maxHeartbeats 800000 in
theorem growB_any (n : Nat) (w : World) (hn : n ≤ 16777216) :
    Calls Tryz.prog 227 #[.slice none 0 0, .int .i64 n] w (RetOwn 3 encB 34 [] w) := by
  obtain ⟨i0, hi, hz0, hz1, hz2⟩ := info_parts info_conB
  have HI := Lib.hid hi
  have HZ0 := Lib.hid hz0
  have HZ1 := Lib.hid hz1
  have HZ2 := Lib.hid hz2
  clear hi hz0 hz1 hz2
  by_cases h0 : 0 < n
  · have h0' : 0 < (n : Int) := by omega
    go_enter Tryz.func227, Tryz.ntmps227
    go_wp2_with (at_builtin; refine Lib.wpList_append_run _ rfl _ _ _ _ rfl _ _ rfl rfl _ _ (Lib.run_append_nil_zeros w 26 3 _ 34 i0 _ .i64 .i64 Tryz.underlying26 Tryz.underlying3 HI.out HZ0.out n h0 (by rw [HZ1.out]; omega) (by omega) (by rw [HZ2.out]; omega)) ?_)
    go_ret
    exact ⟨_, rfl, World.ownsRow_made w.drew _ _ (Nat.le_refl _) (grownCap_le_maxLen w n 0 34 (by unfold maxLen; omega)) (by
      have hge := grownCap_ge w n 0 34
      simp only [Array.size_append, size_zeroCells]
      show n * 3 + (grownCap w n 0 34 - n) * 3 = _
      omega), below_alloc (below_drew (Below.refl _ _)) _⟩
  · have e : n = 0 := by omega
    subst e
    go_enter Tryz.func227, Tryz.ntmps227
    go_wp2
    go_ret
    exact ⟨_, rfl, World.ownsRow_nil _ _ _ _, Below.refl _ _⟩

set_option maxHeartbeats 800000 in
theorem concatB_any {A : Option Addr} {m cap : Nat} {ss : List (Sn B3)} {w : World} (h : SlS 3 encB w A m ss) (hm : m ≤ 1024) (hl : snLen ss ≤ 4194304) :
    Calls Tryz.prog 224 #[.slice A m cap] w (RetOwn 3 encB 34 (snAll ss) w) := by
  have H := Lib.hid h
  clear h
  go_enter Tryz.func224, Tryz.ntmps224
  go_wp2
  go_loop [3, 11, 5] (fun z i _ => ∃ j : Nat, j ≤ m ∧ i = .int .i64 j ∧ z = .int .i64 (snLen (ss.take j))) (fun _ i _ => m - (intOf i).toNat)
  case atStart => exact ⟨0, by omega, rfl, rfl⟩
  case round =>
    obtain ⟨j, hj, rfl, rfl⟩ := hrel
    have ht := snLen_take ss j
    by_cases hjm : j < m
    · obtain ⟨b, off, s, rfl, hbl, hx, hd, hc⟩ := H.out.1.at_ hjm
      have hc0 := hc 0 _ rfl
      simp only [Nat.mul_one, Nat.add_zero] at hc0
      have HX := Lib.hid (snLen_next hx)
      have ht1 := snLen_take ss (j + 1)
      rw [HX.out] at ht1
      obtain ⟨sA, sn, sc, sxs⟩ := s
      simp only at hc0 ht1 HX
      clear hx hd hc
      generalize snLen (ss.take j) = z at *
      go_wp2
      go_round
      case rel => exact ⟨j + 1, by omega, by go_num, by rw [HX.out]; go_num⟩
      case measure => simp [intOf]; omega
    · have e : j = m := by omega
      subst e
      have hx : ss.take j = ss := List.take_of_length_le (by have := H.out.1.len; omega)
      rw [hx]
      clear hx ht
      have HL := Lib.hid hl
      clear hl
      generalize hz : snLen ss = z
      have HZ := Lib.hid hz
      have hzl : z ≤ 4194304 := by rw [← hz]; exact HL.out
      clear hz
      go_wp2_with (go_at_call 227; refine (growB_any z w (by omega)).mono ?_; rintro e w1 ⟨v, rfl, hown, hb1⟩; have HO := Lib.hid hown; have HB := Lib.hid hb1; clear hown hb1)
      go_loopw [6, 27, 8] (fun s i _ wr => ∃ q : Nat, q ≤ j ∧ i = .int .i64 q ∧ OwnE 3 encB 34 w.heap.size wr s (snAll (ss.take q)) ∧ Below w.heap.size w wr) (fun _ i _ _ => j - (intOf i).toNat)
      case atStart => exact ⟨0, by omega, rfl, HO.out, HB.out⟩
      case round =>
        obtain ⟨q, hq, rfl, hown, hbr⟩ := hrel
        have HR := Lib.hid hbr
        have HW := Lib.hid hown
        have hbs := hbr.size
        clear hown hbr
        by_cases hqm : q < j
        · obtain ⟨b, off, s, rfl, hbl, hx, hd, hc⟩ := (H.out.1.below HR.out).at_ hqm
          have hc0 := hc 0 _ rfl
          simp only [Nat.mul_one, Nat.add_zero] at hc0
          have HX := Lib.hid (snAll_next hx)
          have HS := Lib.hid ((H.out.2 s (mem_at hx)).below HR.out)
          have hlen : (snAll (ss.take q)).length + s.n ≤ 4194304 := by
            have h1 := snLen_next hx
            have h2 := snLen_take ss (q + 1)
            have h3 : SlS 3 encB w (some ⟨b, off, none⟩) (ss.take q).length (ss.take q) := ⟨⟨rfl, fun hn => by
              obtain ⟨b', off', hA, hlt, hcc⟩ := H.out.1.2 (by have := List.length_take_le q ss; omega)
              exact ⟨b', off', hA, hlt, fun jj p hp => hcc jj p (by rw [List.getElem?_take] at hp; split at hp; exact hp; cases hp)⟩⟩, fun s' hs' => H.out.2 s' (mem_take_of hs')⟩
            rw [h3.all_len]
            have := HL.out
            omega
          obtain ⟨sA, sn, sc, sxs⟩ := s
          simp only at hc0 HX HS hlen
          clear hx hd hc
          go_wp2_with (at_builtin; refine wpList_cat (bytes := 24) encB_len encB_one (by omega) rfl _ _ _ rfl Tryz.underlying26 info_conB rfl _ (snAll (ss.take q)) rfl HW.out rfl HS.out (by omega) (by unfold maxLen; omega) hbs ?_; intro v' w' hown' hg'; have HO' := Lib.hid hown'; have HB' := Lib.hid (below_grown HR.out hg' HW.out (Nat.le_refl _)); clear hown' hg')
          go_roundw
          case rel => exact ⟨q + 1, by omega, by go_num, by rw [HX.out]; exact HO'.out, HB'.out⟩
          case measure => simp [intOf]; omega
        · have hx : ss.take q = ss := List.take_of_length_le (by have := H.out.1.len; omega)
          rw [hx] at HW
          clear hx
          go_wp2
          go_ret
          exact ⟨_, rfl, HW.out, HR.out⟩
end Go.Proofs.YtgjllminidlolaaGreatDoor
