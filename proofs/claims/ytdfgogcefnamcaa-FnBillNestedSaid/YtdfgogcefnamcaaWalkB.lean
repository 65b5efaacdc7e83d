/- Contracts: the packets of a way-bill, the load on a leg, whether a list is a way-bill. -/
import Derived.Test.YtdfgogcefnamcaaWalkA
import Derived.Test.YtdfgogcefnamcaaOwn
set_option linter.unusedVariables false
namespace Go.Proofs.Ytdfgogcefnamcaa
open Go.RowKit

theorem info_packet : (Try.prog.info? 78).map (fun i => (i.zero, i.size, i.bytes)) = some (some (.agg #[.int .i64 0, .int .i64 0, .int .i64 0, .int .i64 0]), 4, 32) := by kernel_rfl

set_option maxHeartbeats 400000 in
theorem packetsOf_any (A : Option Addr) (n cap : Nat) (xs : List T3) (w : World) (h : SlE 3 enc3 w A n xs) (hn : n ≤ 16777216) :
    Calls Try.prog 83 #[.slice A n cap] w (RetOwn 4 enc4 78 (packs xs) w) := by
  have H := Lib.hid h
  clear h
  go_enter Try.func83, Try.ntmps83
  go_wp2
  go_loopw [3, 9, 4, 5] (fun s i _ _ wr => ∃ k : Nat, k ≤ n ∧ i = .int .i64 k ∧ OwnE 4 enc4 78 w.heap.size wr s (packs (xs.take k)) ∧ Below w.heap.size w wr) (fun _ i _ _ _ => n - (intOf i).toNat)
  case atStart => exact ⟨0, by omega, rfl, own_new w _ _ (Nat.le_refl _) enc4_len [] #[] rfl (by simp) rfl, below_alloc (Below.refl _ _) _⟩
  case round =>
    obtain ⟨k, hk, rfl, hown, hbel⟩ := hrel
    by_cases hlt : k < n
    · obtain ⟨b, off, x, y, z, rfl, hbl, hx, hd, h0, h1, h2⟩ := at3 H.out hbel hlt
      have HX := Lib.hid (packs_next hx)
      have HO := Lib.hid hown
      have HB := Lib.hid hbel
      have hsz := hbel.size
      have hlen : (packs (xs.take k)).length ≤ k := by rw [packs_len]; exact List.length_take_le _ _
      clear hd hx hown hbel
      go_wp2_with (at_builtin; refine wpList_push 4 32 78 enc4 enc4_len enc4_one (by omega) ⟨x, y, k, z⟩ _ _ rfl rfl _ _ _ rfl Try.underlying68 info_packet rfl w.heap.size _ (packs (xs.take k)) rfl rfl (by simp) (HO.out.alloc _) (by omega) (by unfold maxLen; omega) (by simp; omega) ?_; intro v' w' hown' hg'; have HO' := Lib.hid hown'; have HB' := Lib.hid (below_grown (below_alloc HB.out _) hg' (HO.out.alloc _) (Nat.le_refl _)); clear hown' hg')
      go_roundw
      case rel => exact ⟨k + 1, by omega, by go_num, by rw [HX.out]; exact HO'.out, HB'.out⟩
      case measure => simp [intOf]; omega
    · have hx : xs.take k = xs := List.take_of_length_le (by have := H.out.len; omega)
      rw [hx] at hown
      have HO := Lib.hid hown
      have HB := Lib.hid hbel
      clear hx hown hbel
      go_wp2
      go_ret
      exact ⟨_, rfl, HO.out, HB.out⟩

set_option maxHeartbeats 400000 in
theorem over_any (f t leg : Int) (w : World) :
    Calls Try.prog 84 #[.agg #[.int .i64 f, .int .i64 t], .int .i64 leg] w (OnlyB (f ≤ leg ∧ leg < t) w) := by
  go_enter Try.func84, Try.ntmps84
  go_wp2
  all_goals
    go_ret
    exact ⟨_, rfl, by simp <;> omega, below_alloc (Below.refl _ _) _⟩

set_option maxHeartbeats 400000 in
theorem loadOn_any (A : Option Addr) (n cap : Nat) (leg : Int) (xs : List T3) (w : World) (h : SlE 3 enc3 w A n xs) (hn : n ≤ 16777216) (hw : ∀ p ∈ xs, 0 ≤ p.c ∧ p.c ≤ 99) :
    Calls Try.prog 67 #[.slice A n cap, .int .i64 leg] w (Only (.int .i64 (load xs leg)) w) := by
  have H := Lib.hid h
  have HW := Lib.hid hw
  clear h hw
  go_enter Try.func67, Try.ntmps67
  go_wp2_with fail
  refine (packetsOf_any A n cap xs w H.out hn).mono ?_
  rintro e w1 ⟨v, rfl, hown, hbel⟩
  obtain ⟨A1, c1, rfl, hs⟩ := hown.sl enc4_len
  have HS := Lib.hid hs
  have HB := Lib.hid hbel
  have hl : (packs xs).length = n := by rw [packs_len, H.out.len]
  rw [hl]
  have HL := Lib.hid hl
  clear hs hbel hown hl
  go_wp2
  go_loopw [5, 11, 7] (fun s i _ wr => ∃ k : Nat, k ≤ n ∧ i = .int .i64 k ∧ s = .int .i64 (load (xs.take k) leg) ∧ Below w1.heap.size w1 wr) (fun _ i _ _ => n - (intOf i).toNat)
  case atStart => exact ⟨0, by omega, rfl, rfl, Below.refl _ _⟩
  case round =>
    obtain ⟨k, hk, rfl, rfl, hbr⟩ := hrel
    have hb := load_bd (xs.take k) leg (fun p hp => HW.out p (mem_take_of hp))
    have hl : (xs.take k).length ≤ k := List.length_take_le _ _
    have HR := Lib.hid hbr
    clear hbr
    by_cases hlt : k < n
    · obtain ⟨b, off, x, y, i, z, rfl, hbl, hx, h0, h1, h2, h3⟩ := at4 (HL.out ▸ HS.out) HR.out hlt
      obtain ⟨⟨x', y', z'⟩, hx', he⟩ := packs_at hx
      injection he with e1 e2 e3 e4
      simp only at e1 e2 e3 e4
      subst e1 e2 e3 e4
      have hz := HW.out _ (mem_at hx')
      have HX := Lib.hid (load_next leg hx')
      clear hx hx'
      simp only at hz
      generalize load (xs.take k) leg = t at *
      by_cases hin : x ≤ leg ∧ leg < y
      · go_wp2_with (go_at_call 84; refine (over_any _ _ _ _).mono ?_; intro e w2 hp; obtain ⟨rfl, hb2⟩ := hp.yes hin; have HB2 := Lib.hid hb2; have hc2 := (bcell hb2).1; clear hb2 hp)
        go_roundw
        case rel => exact ⟨k + 1, by omega, by go_num, by rw [HX.out, if_pos hin], below_trans (below_alloc HR.out _) HB2.out⟩
        case measure => simp [intOf]; omega
      · go_wp2_with (go_at_call 84; refine (over_any _ _ _ _).mono ?_; intro e w2 hp; obtain ⟨rfl, hb2⟩ := hp.no hin; have HB2 := Lib.hid hb2; clear hb2 hp)
        go_roundw
        case rel => exact ⟨k + 1, by omega, by go_num, by rw [HX.out, if_neg hin]; go_num, below_trans (below_alloc HR.out _) HB2.out⟩
        case measure => simp [intOf]; omega
    · have hx : xs.take k = xs := List.take_of_length_le (by have := H.out.len; omega)
      rw [hx]
      clear hx
      go_wp2
      go_ret
      exact ⟨rfl, below_trans HB.out HR.out⟩
end Go.Proofs.Ytdfgogcefnamcaa
