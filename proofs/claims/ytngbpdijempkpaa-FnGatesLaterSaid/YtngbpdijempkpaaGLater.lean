/- Contracts: GatesLater of both. -/
import Derived.Test.YtngbpdijempkpaaGWalkD
import Derived.Test.YtngbpdijempkpaaTPlainF
import Derived.Deep.RegionHeld3
set_option linter.unusedVariables false
namespace Go.Proofs.Ytngbpdijempkpaa
open Go.RowKit

theorem moved_next {k : Int} {xs : List T3} {j : Nat} {x y z : Int} (h : xs[j]? = some ⟨x, y, z⟩) : moved k (xs.take (j + 1)) = moved k (xs.take j) ++ [⟨x + k, y, z⟩] := by
  rw [take_next h]; simp [moved]
theorem moved_len (k : Int) (xs : List T3) : (moved k xs).length = xs.length := by simp [moved]
/-- The gates can be moved. -/
def LaterOk (xs : List T3) (k : Int) : Prop := GatesOk xs ∧ (xs.length = 0 ∨ (-999 ≤ k ∧ k ≤ 999)) ∧ GatesOk (moved k xs)
def LaterIs (xs : List T3) (k : Int) (ys : List T3) (b : Bool) : Prop := (b = true ∧ LaterOk xs k ∧ ys = moved k xs) ∨ (b = false ∧ ¬ LaterOk xs k ∧ ys = [])
theorem gates_nil : GatesOk [] := ⟨by simp, fun i p h => by simp at h⟩

set_option maxRecDepth 20000 in
set_option maxHeartbeats 3200000 in
theorem implGatesLater_any (A : Option Addr) (len cap : Nat) (xs : List T3) (k : Int) (ys : List T3) (b : Bool) (w : World) (h : SlE 3 enc3 w A len xs) (hn : len ≤ 1048576) (hy : LaterIs xs k ys b) :
    Calls Try.prog 27 #[.slice A len cap, .int .i64 k] w (RetOwnB 3 enc3 31 ys b w) := by
  have H := Lib.hid h
  have HXL := Lib.hid h.len
  have HY := Lib.hid hy
  clear h hy
  by_cases hG : GatesOk xs
  · have HG := Lib.hid hG
    have hl10 := hG.1
    rw [HXL.out] at hl10
    clear hG
    by_cases hr : len = 0 ∨ (-999 ≤ k ∧ k ≤ 999)
    · go_enter Try.func27, Try.ntmps27
      go_wp2_with fail
      refine (implGatesValid_any A len cap xs _ H.out (by omega)).mono ?_
      intro e w1 hp
      obtain ⟨rfl, hb1⟩ := hp.yes HG.out
      have HB1 := Lib.hid (below_alloc hb1 (.cells #[] 31))
      have HO1 := Lib.hid (own_new (enc := enc3) (k := 3) w1 31 w.heap.size hb1.size enc3_len [] #[] rfl (by simp) rfl)
      clear hb1 hp
      go_wp2_with fail
      go_loopw [6, 16, 8] (fun s i _ wr => ∃ j : Nat, j ≤ len ∧ i = .int .i64 j ∧ OwnE 3 enc3 31 w.heap.size wr s (moved k (xs.take j)) ∧ Below w.heap.size w wr) (fun _ i _ _ => len - (intOf i).toNat)
      case atStart => exact ⟨0, by omega, rfl, HO1.out, HB1.out⟩
      case round =>
        obtain ⟨j, hj, rfl, hown, hbr⟩ := hrel
        have HO := Lib.hid hown
        have HR := Lib.hid hbr
        clear hown hbr
        by_cases hlt : j < len
        · obtain ⟨k0, k1⟩ : -999 ≤ k ∧ k ≤ 999 := by omega
          obtain ⟨bb, off, x, y, z, rfl, hbl, hx, hd, g0, g1, g2⟩ := at3 H.out HR.out hlt
          have hgq := HG.out.2 j _ hx
          unfold GOk at hgq
          simp only at hgq
          have HX := Lib.hid (moved_next (k := k) hx)
          have hlen : (moved k (xs.take j)).length ≤ j := by rw [moved_len]; exact List.length_take_le _ _
          have hsz := HR.out.size
          clear hx hd hr
          go_wp2_with (at_builtin; refine wpList_push 3 24 31 enc3 enc3_len enc3_one (by omega) ⟨x + k, y, z⟩ _ _ rfl rfl _ _ _ rfl Try.underlying23 info_conG rfl w.heap.size _ (moved k (xs.take j)) rfl rfl (by simp) (HO.out.alloc _) (by omega) (by unfold maxLen; omega) (by simp; omega) ?_; intro v' w' hown' hg'; have HO' := Lib.hid hown'; have HB' := Lib.hid (below_grown (below_alloc HR.out _) hg' (HO.out.alloc _) (Nat.le_refl _)); clear hown' hg')
          go_roundw
          case rel => exact ⟨j + 1, by omega, by go_num, by rw [HX.out]; exact HO'.out, HB'.out⟩
          case measure => simp [intOf]; omega
        · have hx : xs.take j = xs := List.take_of_length_le (by have := HXL.out; omega)
          rw [hx] at HO
          have e : j = len := by omega
          subst e
          clear hx
          obtain ⟨A2, c2, rfl, hs2, -⟩ := HO.out.slc enc3_len (n := j) (by rw [moved_len, HXL.out])
          have HS2 := Lib.hid hs2
          clear hs2
          go_wp2_with fail
          refine (implGatesValid_any A2 j c2 (moved k xs) _ HS2.out (by omega)).mono ?_
          intro e w2 hp
          by_cases hM : GatesOk (moved k xs)
          · obtain ⟨rfl, hb2⟩ := hp.yes hM
            have HO2 := Lib.hid (HO.out.below hb2 (Nat.le_refl _))
            have HB2 := Lib.hid (below_trans HR.out hb2)
            have hbb : b = true ∧ ys = moved k xs := by
              rcases HY.out with ⟨h1, h2, h3⟩ | ⟨h1, h2, h3⟩
              · exact ⟨h1, h3⟩
              · exact absurd ⟨HG.out, by rw [HXL.out]; exact hr, hM⟩ h2
            obtain ⟨rfl, rfl⟩ := hbb
            clear hb2 hp
            go_wp2
            go_ret2
            exact ⟨_, rfl, HO2.out, HB2.out⟩
          · obtain ⟨rfl, hb2⟩ := hp.no hM
            have HB2 := Lib.hid (below_trans HR.out hb2)
            have hbb : b = false ∧ ys = [] := by
              rcases HY.out with ⟨h1, h2, h3⟩ | ⟨h1, h2, h3⟩
              · exact absurd h2.2.2 hM
              · exact ⟨h1, h3⟩
            obtain ⟨rfl, rfl⟩ := hbb
            have HO2 := Lib.hid (own_new (enc := enc3) (k := 3) w2 31 w.heap.size HB2.out.size enc3_len [] #[] rfl (by simp) rfl)
            have HB3 := Lib.hid (below_alloc HB2.out (.cells #[] 31))
            clear hb2 hp
            go_wp2
            go_ret2
            exact ⟨_, rfl, HO2.out, HB3.out⟩
    · have hlt : 0 < len := by omega
      have hlt' : (0 : Int) < (len : Int) := by omega
      have hbb : b = false ∧ ys = [] := by
        rcases HY.out with ⟨h1, h2, h3⟩ | ⟨h1, h2, h3⟩
        · exact absurd (by have := h2.2.1; rw [HXL.out] at this; exact this) hr
        · exact ⟨h1, h3⟩
      obtain ⟨rfl, rfl⟩ := hbb
      obtain ⟨bb, off, x, y, z, rfl, hbl, hx, hd, g0, g1, g2⟩ := at3 H.out (Below.refl _ w) hlt
      clear hx hd
      go_enter Try.func27, Try.ntmps27
      go_wp2_with fail
      refine (implGatesValid_any (some ⟨bb, off, none⟩) len cap xs _ H.out (by omega)).mono ?_
      intro e w1 hp
      obtain ⟨rfl, hb1⟩ := hp.yes HG.out
      have HB1 := Lib.hid (below_alloc hb1 (.cells #[] 31))
      clear hp
      clear g0 g1 g2
      go_wp2_with fail
      go_loopw [16, 8] (fun i _ wr => i = .int .i64 0 ∧ Below w.heap.size w wr) (fun i _ _ => len - (intOf i).toNat)
      case atStart => exact ⟨rfl, HB1.out⟩
      case round =>
        obtain ⟨rfl, hbr⟩ := hrel
        have HR := Lib.hid hbr
        clear hbr
        obtain ⟨bb', off', x', y', z', hA', hbl', hx', hd', g0, g1, g2⟩ := at3 H.out HR.out hlt
        injection hA' with hA'
        injection hA' with ea eb
        subst ea eb
        simp only [Nat.zero_mul, Nat.add_zero] at g0 g1 g2
        have HB2 := Lib.hid (below_alloc (below_alloc HR.out (.cells #[.int .i64 x', .int .i64 y', .int .i64 z'] 31)) (.cells #[] 31))
        have HO2 := Lib.hid (own_new' (enc := enc3) (k := 3) (wr.alloc (.cells #[.int .i64 x', .int .i64 y', .int .i64 z'] 31)) 31 w.heap.size (Nat.le_trans HR.out.size (by simp)) enc3_len [] #[] rfl (by simp) (n := 0) rfl (g := wr.heap.size + 1) (by simp))
        clear hx' hd'
        by_cases hk : k < -999
        · go_wp2
          go_ret2
          exact ⟨_, rfl, HO2.out, HB2.out⟩
        · have hk2 : 999 < k := by omega
          go_wp2
          go_ret2
          exact ⟨_, rfl, HO2.out, HB2.out⟩
  · have HG := Lib.hid hG
    have hbb : b = false ∧ ys = [] := by
      rcases hy' : HY.out with ⟨h1, h2, h3⟩ | ⟨h1, h2, h3⟩
      · exact absurd h2.1 hG
      · exact ⟨h1, h3⟩
    obtain ⟨rfl, rfl⟩ := hbb
    clear hG
    go_enter Try.func27, Try.ntmps27
    go_wp2_with fail
    refine (implGatesValid_any A len cap xs _ H.out (by omega)).mono ?_
    intro e w1 hp
    obtain ⟨rfl, hb1⟩ := hp.no HG.out
    have HB1 := Lib.hid (below_alloc hb1 (.cells #[] 31))
    have HO1 := Lib.hid (own_new (enc := enc3) (k := 3) w1 31 w.heap.size hb1.size enc3_len [] #[] rfl (by simp) rfl)
    clear hb1 hp
    go_wp2
    go_ret2
    exact ⟨_, rfl, HO1.out, HB1.out⟩

set_option maxRecDepth 20000 in
set_option maxHeartbeats 3200000 in
theorem specGatesLater_any (A : Option Addr) (len cap : Nat) (xs : List T3) (k : Int) (ys : List T3) (b : Bool) (w : World) (h : SlE 3 enc3 w A len xs) (hn : len ≤ 1048576) (hy : LaterIs xs k ys b) :
    Calls Try.prog 28 #[.slice A len cap, .int .i64 k] w (RetOwnB 3 enc3 31 ys b w) := by
  have H := Lib.hid h
  have HXL := Lib.hid h.len
  have HY := Lib.hid hy
  clear h hy
  by_cases hG : GatesOk xs ∧ (len = 0 ∨ (-999 ≤ k ∧ k ≤ 999))
  · obtain ⟨hG, hr⟩ := hG
    have HG := Lib.hid hG
    have hl10 := hG.1
    rw [HXL.out] at hl10
    clear hG
    go_enter Try.func28, Try.ntmps28
    go_wp2_with fail
    go_loopw [6, 7] (fun s i wr => ∃ j : Nat, j ≤ len ∧ i = .int .i64 j ∧ OwnE 3 enc3 31 w.heap.size wr s (moved k (xs.take j)) ∧ Below w.heap.size w wr) (fun _ i _ => len - (intOf i).toNat)
    case atStart => exact ⟨0, by omega, rfl, own_new w _ _ (Nat.le_refl _) enc3_len [] #[] rfl (by simp) rfl, below_alloc (Below.refl _ _) _⟩
    case round =>
      obtain ⟨j, hj, rfl, hown, hbr⟩ := hrel
      have HO := Lib.hid hown
      have HR := Lib.hid hbr
      clear hown hbr
      by_cases hlt : j < len
      · obtain ⟨k0, k1⟩ : -999 ≤ k ∧ k ≤ 999 := by omega
        clear hr
        go_wp2_with fail
        refine (specGatesValid_any A len cap xs _ (H.out.below HR.out) (by omega)).mono ?_
        intro e w2 hp
        obtain ⟨rfl, hb2⟩ := hp.yes HG.out
        have HB2 := Lib.hid (below_trans HR.out hb2)
        have HO2 := Lib.hid (HO.out.below hb2 (Nat.le_refl _))
        clear hb2 hp
        go_wp2_with (go_at_call 51; refine (l6In_any _ _ _ _).mono ?_; intro e w3 hp; obtain ⟨rfl, rfl⟩ := hp.yes (by omega))
        obtain ⟨bb, off, x, y, z, rfl, hx, hc⟩ := at3k H.out HB2.out hlt
        have hgq := HG.out.2 j _ hx
        unfold GOk at hgq
        simp only at hgq
        have HX := Lib.hid (moved_next (k := k) hx)
        have HC := Lib.hid hc
        have hlen : (moved k (xs.take j)).length ≤ j := by rw [moved_len]; exact List.length_take_le _ _
        have hsz := HB2.out.size
        have hx0 : (0 : Int) ≤ (j : Int) := by omega
        have hx1 : (j : Int) < (len : Int) := by omega
        have n1 : ((moved k (xs.take j)).length + 1) * 24 ≤ 140737488355328 := by omega
        have n2 : (moved k (xs.take j)).length + 1 ≤ maxLen := by unfold maxLen; omega
        have N := Lib.hid (And.intro n1 n2)
        have e1 : IntKind.i64.wrap (x + k) = x + k := IntWalk.i64_in _ (by omega)
        clear hx hc n1 n2
        have S1 := Lib.hid ((slE_new (k := 3) (enc := enc3) w2 31 enc3_len [⟨x + k, y, z⟩] #[.int .i64 (x + k), .int .i64 y, .int .i64 z] rfl (by simp [maxLen]) (n := 1) rfl (g := w2.heap.size) rfl).drew)
        have HB2d := Lib.hid (below_drew HB2.out)
        have HB2a := Lib.hid (below_drew (below_alloc HB2.out (.cells #[.int .i64 (x + k), .int .i64 y, .int .i64 z] 31)))
        have O2a := Lib.hid ((HO2.out.alloc (.cells #[.int .i64 (x + k), .int .i64 y, .int .i64 z] 31)).drew)
        go_region_held3 (fun w' => w'.cell? ⟨bb, off + j * 3, none⟩ = some (.int .i64 x) ∧ w'.cell? ⟨bb, off + j * 3 + 1, none⟩ = some (.int .i64 y) ∧ w'.cell? ⟨bb, off + j * 3 + 2, none⟩ = some (.int .i64 z))
          (first | exact HC.out _ HB2d.out | exact HC.out _ HB2a.out | (have := HB'.out; exact HC.out _ this) | fail)
          (first
            | (refine step_cat (bytes := 24) (base := w.heap.size) enc3_len enc3_one (Nat.succ_pos 2) rfl (.tmp 23) (.tmp 42) _ rfl Try.underlying23 info_conG rfl _ (moved k (xs.take j)) rfl O2a.out rfl S1.out N.out.1 N.out.2 HB2a.out.size ?_; intro v' w' hown' hg'; have HB' := Lib.hid (below_grown HB2a.out hg' O2a.out (Nat.le_refl _)); have HO' := Lib.hid hown'; clear hown' hg')
            | fail)
        clear e1
        go_wp2
        go_roundw
        case rel => exact ⟨j + 1, by omega, by go_num, by rw [HX.out]; exact HO'.out, HB'.out⟩
        case measure => simp [intOf]; omega
      · have hx : xs.take j = xs := List.take_of_length_le (by have := HXL.out; omega)
        rw [hx] at HO
        have e : j = len := by omega
        subst e
        clear hx
        obtain ⟨A2, c2, rfl, hs2, -⟩ := HO.out.slc enc3_len (n := j) (by rw [moved_len, HXL.out])
        have HS2 := Lib.hid hs2
        clear hs2
        go_wp2_with fail
        refine (specGatesValid_any A2 j c2 (moved k xs) _ HS2.out (by omega)).mono ?_
        intro e w2 hp
        by_cases hM : GatesOk (moved k xs)
        · obtain ⟨rfl, hb2⟩ := hp.yes hM
          have HO2 := Lib.hid (HO.out.below hb2 (Nat.le_refl _))
          have HB2 := Lib.hid (below_trans HR.out hb2)
          have hbb : b = true ∧ ys = moved k xs := by
            rcases HY.out with ⟨h1, h2, h3⟩ | ⟨h1, h2, h3⟩
            · exact ⟨h1, h3⟩
            · exact absurd ⟨HG.out, by rw [HXL.out]; exact hr, hM⟩ h2
          obtain ⟨rfl, rfl⟩ := hbb
          clear hb2 hp
          go_wp2
          go_ret2
          exact ⟨_, rfl, HO2.out, HB2.out⟩
        · obtain ⟨rfl, hb2⟩ := hp.no hM
          have HB2 := Lib.hid (below_trans HR.out hb2)
          have hbb : b = false ∧ ys = [] := by
            rcases HY.out with ⟨h1, h2, h3⟩ | ⟨h1, h2, h3⟩
            · exact absurd h2.2.2 hM
            · exact ⟨h1, h3⟩
          obtain ⟨rfl, rfl⟩ := hbb
          have HO2 := Lib.hid (own_new (enc := enc3) (k := 3) w2 31 w.heap.size HB2.out.size enc3_len [] #[] rfl (by simp) rfl)
          have HB3 := Lib.hid (below_alloc HB2.out (.cells #[] 31))
          clear hb2 hp
          go_wp2
          go_ret2
          exact ⟨_, rfl, HO2.out, HB3.out⟩
  · have hbb : b = false ∧ ys = [] := by
      rcases HY.out with ⟨h1, h2, h3⟩ | ⟨h1, h2, h3⟩
      · exact absurd ⟨h2.1, by have := h2.2.1; rw [HXL.out] at this; exact this⟩ hG
      · exact ⟨h1, h3⟩
    obtain ⟨rfl, rfl⟩ := hbb
    have hlt : 0 < len := by
      rcases Nat.eq_zero_or_pos len with e | e
      · exfalso
        apply hG
        have : xs = [] := List.eq_nil_of_length_eq_zero (by rw [HXL.out]; exact e)
        rw [this]
        exact ⟨gates_nil, .inl e⟩
      · exact e
    have hlt' : (0 : Int) < (len : Int) := by omega
    have hne : ((0 : Int) == (len : Int)) = false := by simp; omega
    have HG := Lib.hid hG
    clear hG
    go_enter Try.func28, Try.ntmps28
    go_wp2_with fail
    go_loopw [6, 7] (fun s i wr => i = .int .i64 0 ∧ OwnE 3 enc3 31 w.heap.size wr s ([] : List T3) ∧ Below w.heap.size w wr) (fun _ i _ => len - (intOf i).toNat)
    case atStart => exact ⟨rfl, own_new w _ _ (Nat.le_refl _) enc3_len [] #[] rfl (by simp) rfl, below_alloc (Below.refl _ _) _⟩
    case round =>
      obtain ⟨rfl, hown, hbr⟩ := hrel
      obtain ⟨A2, c2, rfl, -, -⟩ := hown.slc enc3_len (n := 0) rfl
      have HR := Lib.hid hbr
      clear hown hbr
      go_wp2_with fail
      refine (specGatesValid_any A len cap xs _ (H.out.below HR.out) (by omega)).mono ?_
      intro e w2 hp
      by_cases hG2 : GatesOk xs
      · obtain ⟨rfl, hb2⟩ := hp.yes hG2
        have HB2 := Lib.hid (below_trans HR.out hb2)
        have hk : ¬ (-999 ≤ k ∧ k ≤ 999) := fun h => HG.out ⟨hG2, .inr h⟩
        have HO2 := Lib.hid (own_new (enc := enc3) (k := 3) w2 31 w.heap.size HB2.out.size enc3_len [] #[] rfl (by simp) rfl)
        have HB3 := Lib.hid (below_alloc HB2.out (.cells #[] 31))
        clear hb2 hp hG2
        go_wp2_with (go_at_call 51; refine (l6In_any _ _ _ _).mono ?_; intro e w3 hp; obtain ⟨rfl, rfl⟩ := hp.no (by omega))
        go_ret2
        exact ⟨_, rfl, HO2.out, HB3.out⟩
      · obtain ⟨rfl, hb2⟩ := hp.no hG2
        have HB2 := Lib.hid (below_trans HR.out hb2)
        have HO2 := Lib.hid (own_new (enc := enc3) (k := 3) w2 31 w.heap.size HB2.out.size enc3_len [] #[] rfl (by simp) rfl)
        have HB3 := Lib.hid (below_alloc HB2.out (.cells #[] 31))
        clear hb2 hp hG2
        go_wp2_with fail
        go_ret2
        exact ⟨_, rfl, HO2.out, HB3.out⟩
end Go.Proofs.Ytngbpdijempkpaa
