/- Contracts: the reference's l9Run. -/
import Derived.Test.YtdfgogcefnamcaaStkT
set_option linter.unusedVariables false
namespace Go.Proofs.Ytdfgogcefnamcaa
open Go.RowKit

theorem idxOf_at : ∀ (xs : List Int) (a x : Int) (t : Nat), xs[t]? = some x → t ≤ xs.idxOf a → (x = a ↔ t = xs.idxOf a)
  | [], _, _, _, h, _ => by simp at h
  | y :: ys, a, x, 0, h, _ => by
    simp only [List.getElem?_cons_zero, Option.some.injEq] at h
    subst h
    by_cases e : y = a
    · simp [e]
    · have e' : (y == a) = false := by simpa using e
      simp only [List.idxOf_cons, e', cond_false]
      exact ⟨fun h => absurd h e, fun h => absurd h (by omega)⟩
  | y :: ys, a, x, t + 1, h, ht => by
    simp only [List.getElem?_cons_succ] at h
    by_cases e : y = a
    · simp [e] at ht
    · have e' : (y == a) = false := by simpa using e
      simp only [List.idxOf_cons, e', cond_false] at ht ⊢
      have := idxOf_at ys a x t h (by omega)
      rw [this]
      omega
theorem packs_get {xs : List T3} {k : Nat} {x y z : Int} (h : xs[k]? = some ⟨x, y, z⟩) : (packs xs)[k]? = some ⟨x, y, k, z⟩ := by
  simp [packs, h]
theorem packs_ab {xs : List T3} (h : ∀ p ∈ xs, 0 ≤ p.a ∧ p.a < p.b) : ∀ p ∈ packs xs, 0 ≤ p.a ∧ p.a < p.b := fun q hq => by
  obtain ⟨j, hj⟩ := List.getElem?_of_mem hq
  obtain ⟨p, hp, rfl⟩ := packs_at hj
  exact h p (List.mem_of_getElem? hp)

set_option maxRecDepth 20000 in
set_option maxHeartbeats 3200000 in
theorem l9Run_any (A : Option Addr) (s : Nat) (len cap : Nat) (xs : List T3) (w : World) (h : SlE 3 enc3 w A len xs) (hlen : len ≤ 12) (hs : s ≤ 7) (hab : ∀ p ∈ xs, 0 ≤ p.a ∧ p.a < p.b) :
    Calls Try.prog 73 #[.slice A len cap, .int .i64 s] w
      fun e w' => ∃ v, e = .returned (.tuple #[v, .int .i64 (runI (packs xs) (s + 1)).2]) ∧ OwnE 1 encI 3 w.heap.size w' v (runI (packs xs) (s + 1)).1 ∧ Below w.heap.size w w' := by
  have H := Lib.hid h
  have HXL := Lib.hid h.len
  have HAB := Lib.hid hab
  clear h hab
  go_enter Try.func73, Try.ntmps73
  go_wp2
  go_loopw [6, 7, 8] (fun v m i wr => ∃ k : Nat, k ≤ s + 1 ∧ i = .int .i64 k ∧ m = .int .i64 (runI (packs xs) k).2 ∧ OwnE 1 encI 3 w.heap.size wr v (runI (packs xs) k).1 ∧ Below w.heap.size w wr) (fun _ _ i _ => s + 1 - (intOf i).toNat)
  case atStart => exact ⟨0, by omega, rfl, rfl, own_new w _ _ (Nat.le_refl _) encI_len [] #[] rfl (by simp) rfl, below_alloc (Below.refl _ w) _⟩
  case round =>
    obtain ⟨k, hk, rfl, rfl, hown, hbr⟩ := hrel
    have HO := Lib.hid hown
    have HR := Lib.hid hbr
    clear hown hbr
    by_cases hlt : k ≤ s
    · have HW := Lib.hid (show runI (packs xs) (k + 1) = stopI (packs xs) k (runI (packs xs) k) from rfl)
      have hb0 := runI_bd (packs xs) (by rw [packs_len, HXL.out]; exact hlen) k (by omega)
      have HB0 := Lib.hid hb0
      clear hb0
      go_wp2
      go_loopw [6, 7, 9, 10] (fun v m i _ wq => ∃ j : Nat, j ≤ len ∧ i = .int .i64 j ∧ m = .int .i64 (takesP k ((packs xs).take j) (runI (packs xs) k)).2 ∧ OwnE 1 encI 3 w.heap.size wq v (takesP k ((packs xs).take j) (runI (packs xs) k)).1 ∧ Below w.heap.size w wq) (fun _ _ i _ _ => len - (intOf i).toNat)
      case atStart => exact ⟨0, by omega, rfl, rfl, HO.out, HR.out⟩
      case round =>
        obtain ⟨j, hj, rfl, rfl, hown, hbq⟩ := hrel
        have HO1 := Lib.hid hown
        have HQ := Lib.hid hbq
        clear hown hbq
        by_cases hjl : j < len
        · obtain ⟨b, off, x, y, z, rfl, hbl, hx, hd, h0, h1, h2⟩ := at3 H.out HQ.out hjl
          have hp := packs_get hx
          have HX := Lib.hid (takesP_next (s := (k : Int)) (runI (packs xs) k) hp)
          have hbd := takesP_bd k ((packs xs).take j) (runI (packs xs) k) 96 (by have := HB0.out.1; omega)
          have hbl2 : (((packs xs).take j).length : Int) * 96 ≤ 12 * 96 := Int.mul_le_mul_of_nonneg_right (by have := List.length_take_le j (packs xs); omega) (by omega)
          have e12 : (12 : Int) * 96 = 1152 := by decide
          have hb0 := HB0.out
          obtain ⟨d1, d2, d3⟩ := hbd
          have d4 : 0 ≤ (takesP k ((packs xs).take j) (runI (packs xs) k)).2 := by omega
          have d5 : (takesP k ((packs xs).take j) (runI (packs xs) k)).2 ≤ 100000 := by omega
          clear d2 d3 hbl2 e12 hb0 hd
          have HT := Lib.hid (fun he : y = k => take_there (placed_packs xs) (packs_ab HAB.out) k hp he)
          clear hx hp
          generalize takesP k ((packs xs).take j) (runI (packs xs) k) = st at *
          by_cases he : y = k
          · have e1 : (y == (k : Int)) = true := by simpa using he
            have e1' : (y != (k : Int)) = false := by simpa using he
            have hmem := HT.out he
            have hlt2 := List.idxOf_lt_length_iff.2 hmem
            have HE := Lib.hid he
            have HM := Lib.hid hmem
            obtain ⟨A1, c1, rfl, hs1, hc1⟩ := HO1.out.slc encI_len rfl
            have HS1 := Lib.hid hs1
            have hI := fun (t : Nat) (u : Int) (hu : st.1[t]? = some u) (ht : t ≤ st.1.idxOf (j : Int)) => idxOf_at st.1 j u t hu ht
            have HI := Lib.hid hI
            have HTK := Lib.hid (show takeI st (j : Int) = (st.1.eraseIdx (st.1.idxOf (j : Int)), st.2 + ((st.1.length : Int) - 1 - (st.1.idxOf (j : Int) : Int))) from if_pos hmem)
            clear he hmem hs1 hI
            generalize st.1.idxOf (j : Int) = idx at *
            go_wp2
            go_loop [10] (fun a => ∃ t : Nat, t ≤ idx ∧ a = .int .i64 t) (fun a => idx - (intOf a).toNat)
            case atStart => exact ⟨0, by omega, rfl⟩
            case round =>
              obtain ⟨t, ht, rfl⟩ := hrel
              obtain ⟨g, go, u, rfl, hgl, hu, hud, hc0⟩ := at1 HS1.out (Below.refl _ _) (show t < st.1.length by omega)
              have hui := HI.out t u hu ht
              clear hu hud
              by_cases hte : t = idx
              · have hue := hui.2 hte
                have e2 : (u != (j : Int)) = false := by simpa using hue
                have e3 : (u == (j : Int)) = true := by simpa using hue
                subst hte
                clear hui hue
                have hn1 : st.1.length = st.1.length := rfl
                generalize hn1 : st.1.length = n1 at *
                have x1 : (st.2 + (n1 : Int) - 1 - (t : Int)) = st.2 + ((n1 : Int) - 1 - (t : Int)) := by omega
                go_wp2
                clear x1
                have k1 : (0 : Int) ≤ (t : Int) := by omega
                have k2 : (t : Int) ≤ (c1 : Int) := by omega
                have k3 : (0 : Int) ≤ (t : Int) + 1 := by omega
                have k4 : (t : Int) + 1 ≤ (n1 : Int) := by omega
                have k5 : (t : Int) + 1 ≤ (c1 : Int) := by omega
                have k6 : (n1 : Int) ≤ (c1 : Int) := by omega
                have k7 : IntKind.i64.wrap ((t : Int) + 1) = (t : Int) + 1 := IntWalk.i64_in _ (by omega)
                have k8 : ((t : Int) + 1).toNat = t + 1 := by omega
                have hq0 := HQ.out
                have O1 := Lib.hid (OwnE.drew (own_new (enc := encI) (k := 1) wr 3 wr.heap.size (Nat.le_refl _) encI_len [] #[] rfl (by simp) rfl))
                have N := Lib.hid (show (([] : List Int).length + t) * 8 ≤ 140737488355328 ∧ ([] : List Int).length + t ≤ maxLen ∧ wr.heap.size ≤ (wr.alloc (.cells #[] 3)).drew.heap.size from ⟨by simp; omega, by simp [maxLen]; omega, by simp⟩)
                have N2 := Lib.hid (show (([] ++ st.1.take t).length + (n1 - (t + 1))) * 8 ≤ 140737488355328 ∧ ([] ++ st.1.take t).length + (n1 - (t + 1)) ≤ maxLen from ⟨by simp; omega, by simp [maxLen]; omega⟩)
                have HA1 := Lib.hid (below_drew (below_alloc (Below.refl _ wr) (.cells #[] 3)))
                have HR0 := Lib.hid (Below.refl wr.heap.size wr)
                have HTE := Lib.hid (List.eraseIdx_eq_take_drop_succ st.1 t)
                have KT := Lib.hid (show t ≤ n1 ∧ t + 1 ≤ n1 from ⟨by omega, by omega⟩)
                clear hq0
                go_region_held3 (fun w' => SlE 1 encI w' (some ⟨g, go, none⟩) n1 st.1 ∧ Below wr.heap.size wr w')
                  (first | exact ⟨(HS1.out.below HR0.out).drew, below_drew HR0.out⟩ | exact ⟨HS1.out.below HA1.out, HA1.out⟩ | (have := HB2.out; exact ⟨HS1.out.below this, this⟩) | (have := HB3.out; exact ⟨HS1.out.below this, this⟩))
                  (first
                    | (refine step_cat (bytes := 8) (base := wr.heap.size) encI_len encI_one Nat.one_pos rfl (.tmp 46) (.tmp 49) _ rfl Try.underlying29 info_int rfl _ [] rfl O1.out rfl (SlE.take (HS1.out.below HA1.out) KT.out.1) N.out.1 N.out.2.1 N.out.2.2 ?_; intro v2 w2 hown2 hg2; have HB2 := Lib.hid (below_grown HA1.out hg2 O1.out (Nat.le_refl _)); have O2 := Lib.hid hown2; clear hown2 hg2)
                    | (refine step_cat (bytes := 8) (base := wr.heap.size) encI_len encI_one Nat.one_pos rfl (.tmp 50) (.tmp 54) _ rfl Try.underlying29 info_int rfl _ _ rfl O2.out rfl (SlE.cut1 (HS1.out.below HB2.out) KT.out.2 hc1) N2.out.1 N2.out.2 HB2.out.size ?_; intro v3 w3 hown3 hg3; have HB3 := Lib.hid (below_grown HB2.out hg3 O2.out (Nat.le_refl _)); have O3 := Lib.hid hown3; clear hown3 hg3))
                go_wp2
                all_goals
                  go_roundw
                  case rel => exact ⟨j + 1, by omega, by go_num, by rw [HX.out, takeStep, if_pos HE.out, HTK.out], by rw [HX.out, takeStep, if_pos HE.out, HTK.out, HTE.out]; exact O3.out.base_le HQ.out.size, below_trans HQ.out HB3.out⟩
                  case measure => simp [intOf]; omega
              · have hue : ¬ u = (j : Int) := fun h => hte (hui.1 h)
                have e2 : (u != (j : Int)) = true := by simpa using hue
                have e3 : (u == (j : Int)) = false := by simpa using hue
                clear hui hue
                go_wp2
                go_round
                case rel => exact ⟨t + 1, by omega, by go_num⟩
                case measure => simp [intOf]; omega
          · have e1 : (y == (k : Int)) = false := by simpa using he
            have e1' : (y != (k : Int)) = true := by simpa using he
            have HE := Lib.hid he
            clear he
            go_wp2
            go_roundw
            case rel => exact ⟨j + 1, by omega, by go_num, by rw [HX.out, takeStep, if_neg HE.out], by rw [HX.out, takeStep, if_neg HE.out]; exact HO1.out, HQ.out⟩
            case measure => simp [intOf]; omega
        · have hx : (packs xs).take j = packs xs := List.take_of_length_le (by rw [packs_len]; have := HXL.out; omega)
          rw [hx] at HO1
          rw [hx]
          clear hx
          have hbd := takesP_bd k (packs xs) (runI (packs xs) k) 96 (by have := HB0.out.1; omega)
          obtain ⟨d1, d2, d3⟩ := hbd
          clear d2 d3
          have HW2 := Lib.hid (show stopI (packs xs) k (runI (packs xs) k) = (putsP k (packs xs) (takesP k (packs xs) (runI (packs xs) k)).1, (takesP k (packs xs) (runI (packs xs) k)).2) from rfl)
          generalize takesP k (packs xs) (runI (packs xs) k) = st at *
          go_wp2
          go_loopw [6, 11] (fun v i wq => ∃ j : Nat, j ≤ len ∧ i = .int .i64 j ∧ OwnE 1 encI 3 w.heap.size wq v (putsP k ((packs xs).take j) st.1) ∧ Below w.heap.size w wq) (fun _ i _ => len - (intOf i).toNat)
          case atStart => exact ⟨0, by omega, rfl, HO1.out, HQ.out⟩
          case round =>
            obtain ⟨j2, hj2, rfl, hown, hbq⟩ := hrel
            have HO2 := Lib.hid hown
            have HQ2 := Lib.hid hbq
            clear hown hbq
            by_cases hjl2 : j2 < len
            · obtain ⟨b, off, x, y, z, rfl, hbl, hx, hd, h0, h1, h2⟩ := at3 H.out HQ2.out hjl2
              have HX := Lib.hid (putsP_next (s := (k : Int)) st.1 (packs_get hx))
              have hpb := putsP_bd k ((packs xs).take j2) st.1
              have hlk := List.length_take_le j2 (packs xs)
              have M1 := Lib.hid (show ((putsP k ((packs xs).take j2) st.1).length + 1) * 8 ≤ 140737488355328 ∧ (putsP k ((packs xs).take j2) st.1).length + 1 ≤ maxLen from ⟨by omega, by unfold maxLen; omega⟩)
              have hsz := HQ2.out.size
              clear hx hd hpb hlk
              generalize putsP k ((packs xs).take j2) st.1 = is at *
              by_cases he : x = k
              · have e1 : (x == (k : Int)) = true := by simpa using he
                have HE := Lib.hid he
                clear he
                go_wp2_with (at_builtin; refine wpList_push 1 8 3 encI encI_len encI_one Nat.one_pos (j2 : Int) _ _ rfl rfl _ _ _ rfl Try.underlying29 info_int rfl w.heap.size _ is rfl rfl rfl HO2.out M1.out.1 M1.out.2 hsz ?_; intro v' w' hown' hg'; have HO' := Lib.hid hown'; have HB' := Lib.hid (below_grown HQ2.out hg' HO2.out (Nat.le_refl _)); clear hown' hg')
                go_roundw
                case rel => exact ⟨j2 + 1, by omega, by go_num, by rw [HX.out, putStep, if_pos HE.out]; exact HO'.out, HB'.out⟩
                case measure => simp [intOf]; omega
              · have e1 : (x == (k : Int)) = false := by simpa using he
                have HE := Lib.hid he
                clear he
                go_wp2
                go_roundw
                case rel => exact ⟨j2 + 1, by omega, by go_num, by rw [HX.out, putStep, if_neg HE.out]; exact HO2.out, HQ2.out⟩
                case measure => simp [intOf]; omega
            · have hx : (packs xs).take j2 = packs xs := List.take_of_length_le (by rw [packs_len]; have := HXL.out; omega)
              rw [hx] at HO2
              clear hx
              go_wp2
              go_roundw
              case rel => exact ⟨k + 1, by omega, by go_num, by rw [HW.out, HW2.out], by rw [HW.out, HW2.out]; exact HO2.out, HQ2.out⟩
              case measure => simp [intOf]; omega
    · have hx : k = s + 1 := by omega
      subst hx
      go_wp2
      go_ret2
      exact ⟨_, rfl, HO.out, HR.out⟩
end Go.Proofs.Ytdfgogcefnamcaa
