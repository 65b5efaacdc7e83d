/- Contracts: the table of a letter: slices.IndexFunc over stops, canTake, reach. -/
import Derived.Test.YtgjllminidlolaaGreatDoorMAO
import Derived.Test.YtgjllminidlolaaGreatDoorMQPWalkB
import Derived.BigQuiet
set_option linter.unusedVariables false
namespace Go.Proofs.YtgjllminidlolaaGreatDoor
open Go.RowKit

set_option maxRecDepth 20000 in
set_option maxHeartbeats 800000 in
theorem indexRide_any (Q : T3 → Prop) (p1 : Value) (A : Option Addr) (n cap : Nat) (xs : List T3) (w : World) (h : SlE 3 enc3 w A n xs) (hn : n ≤ 16777216)
    (ht : ∀ W, Below w.heap.size w W → ∀ (j : Nat) x y z, xs[j]? = some ⟨x, y, z⟩ → Calls Tryz.prog 169 #[.agg #[.int .i64 x, .int .i64 y, .int .i64 z], p1] W (OnlyB (Q ⟨x, y, z⟩) W)) :
    Calls Tryz.prog 168 #[.slice A n cap, .func (.func 169) #[] #[p1]] w (FstRet Q xs w) := by
  have H := Lib.hid h
  have HT := Lib.hid ht
  clear h ht
  go_enter Tryz.func168, Tryz.ntmps168
  go_wp2
  go_loopw [8, 5] (fun i _ wr => ∃ k : Nat, k ≤ n ∧ i = .int .i64 k ∧ NotYet Q xs k ∧ Below w.heap.size w wr) (fun i _ _ => n - (intOf i).toNat)
  case atStart => exact ⟨0, by omega, rfl, notYet_nil Q xs, Below.refl _ _⟩
  case round =>
    obtain ⟨k, hk, rfl, hno, hbr⟩ := hrel
    have HR := Lib.hid hbr
    have HN := Lib.hid hno
    clear hno hbr
    by_cases hlt : k < n
    · obtain ⟨b, off, x, y, z, rfl, hbl, hx, hd, g0, g1, g2⟩ := at3 H.out HR.out hlt
      have HX := Lib.hid hx
      have HC := Lib.hid (HT.out _ HR.out k x y z hx)
      clear hx hd
      by_cases he : Q ⟨x, y, z⟩
      · have HE := Lib.hid he
        clear he
        go_wp2_with (go_at_call 169; refine HC.out.mono ?_; intro e w2 hp; obtain ⟨rfl, hb2⟩ := hp.yes HE.out; have HB2 := Lib.hid (below_trans HR.out hb2); clear hb2 hp)
        go_ret
        exact ⟨_, rfl, .inr ⟨k, _, rfl, HX.out, HE.out, HN.out⟩, HB2.out⟩
      · have HE := Lib.hid he
        clear he
        go_wp2_with (go_at_call 169; refine HC.out.mono ?_; intro e w2 hp; obtain ⟨rfl, hb2⟩ := hp.no HE.out; have HB2 := Lib.hid (below_trans HR.out hb2); clear hb2 hp)
        go_roundw
        case rel => exact ⟨k + 1, by omega, by go_num, notYet_next HN.out HX.out HE.out, HB2.out⟩
        case measure => simp [intOf]; omega
    · have HL := Lib.hid (show k = xs.length by have := H.out.len; omega)
      go_wp2
      go_ret
      exact ⟨_, rfl, .inl ⟨rfl, fun i r hr => HN.out i r (by have := (List.getElem?_eq_some_iff.1 hr).1; have := HL.out; omega) hr⟩, HR.out⟩
set_option maxRecDepth 20000 in
set_option maxHeartbeats 800000 in
theorem indexLast_any (Q : T3 → Prop) (p1 : Value) (A : Option Addr) (n cap : Nat) (xs : List T3) (w : World) (h : SlE 3 enc3 w A n xs) (hn : n ≤ 16777216)
    (ht : ∀ W, Below w.heap.size w W → ∀ (j : Nat) x y z, xs[j]? = some ⟨x, y, z⟩ → Calls Tryz.prog 223 #[.agg #[.int .i64 x, .int .i64 y, .int .i64 z], p1] W (OnlyB (Q ⟨x, y, z⟩) W)) :
    Calls Tryz.prog 168 #[.slice A n cap, .func (.func 223) #[] #[p1]] w (FstRet Q xs w) := by
  have H := Lib.hid h
  have HT := Lib.hid ht
  clear h ht
  go_enter Tryz.func168, Tryz.ntmps168
  go_wp2
  go_loopw [8, 5] (fun i _ wr => ∃ k : Nat, k ≤ n ∧ i = .int .i64 k ∧ NotYet Q xs k ∧ Below w.heap.size w wr) (fun i _ _ => n - (intOf i).toNat)
  case atStart => exact ⟨0, by omega, rfl, notYet_nil Q xs, Below.refl _ _⟩
  case round =>
    obtain ⟨k, hk, rfl, hno, hbr⟩ := hrel
    have HR := Lib.hid hbr
    have HN := Lib.hid hno
    clear hno hbr
    by_cases hlt : k < n
    · obtain ⟨b, off, x, y, z, rfl, hbl, hx, hd, g0, g1, g2⟩ := at3 H.out HR.out hlt
      have HX := Lib.hid hx
      have HC := Lib.hid (HT.out _ HR.out k x y z hx)
      clear hx hd
      by_cases he : Q ⟨x, y, z⟩
      · have HE := Lib.hid he
        clear he
        go_wp2_with (go_at_call 223; refine HC.out.mono ?_; intro e w2 hp; obtain ⟨rfl, hb2⟩ := hp.yes HE.out; have HB2 := Lib.hid (below_trans HR.out hb2); clear hb2 hp)
        go_ret
        exact ⟨_, rfl, .inr ⟨k, _, rfl, HX.out, HE.out, HN.out⟩, HB2.out⟩
      · have HE := Lib.hid he
        clear he
        go_wp2_with (go_at_call 223; refine HC.out.mono ?_; intro e w2 hp; obtain ⟨rfl, hb2⟩ := hp.no HE.out; have HB2 := Lib.hid (below_trans HR.out hb2); clear hb2 hp)
        go_roundw
        case rel => exact ⟨k + 1, by omega, by go_num, notYet_next HN.out HX.out HE.out, HB2.out⟩
        case measure => simp [intOf]; omega
    · have HL := Lib.hid (show k = xs.length by have := H.out.len; omega)
      go_wp2
      go_ret
      exact ⟨_, rfl, .inl ⟨rfl, fun i r hr => HN.out i r (by have := (List.getElem?_eq_some_iff.1 hr).1; have := HL.out; omega) hr⟩, HR.out⟩
set_option maxRecDepth 20000 in
set_option maxHeartbeats 800000 in
theorem indexTake_any (Q : T3 → Prop) (p1 : Value) (A : Option Addr) (n cap : Nat) (xs : List T3) (w : World) (h : SlE 3 enc3 w A n xs) (hn : n ≤ 16777216)
    (ht : ∀ W, Below w.heap.size w W → ∀ (j : Nat) x y z, xs[j]? = some ⟨x, y, z⟩ → Calls Tryz.prog 170 #[p1, .agg #[.int .i64 x, .int .i64 y, .int .i64 z]] W (OnlyB (Q ⟨x, y, z⟩) W)) :
    Calls Tryz.prog 168 #[.slice A n cap, .func (.func 170) #[p1] #[]] w (FstRet Q xs w) := by
  have H := Lib.hid h
  have HT := Lib.hid ht
  clear h ht
  go_enter Tryz.func168, Tryz.ntmps168
  go_wp2
  go_loopw [8, 5] (fun i _ wr => ∃ k : Nat, k ≤ n ∧ i = .int .i64 k ∧ NotYet Q xs k ∧ Below w.heap.size w wr) (fun i _ _ => n - (intOf i).toNat)
  case atStart => exact ⟨0, by omega, rfl, notYet_nil Q xs, Below.refl _ _⟩
  case round =>
    obtain ⟨k, hk, rfl, hno, hbr⟩ := hrel
    have HR := Lib.hid hbr
    have HN := Lib.hid hno
    clear hno hbr
    by_cases hlt : k < n
    · obtain ⟨b, off, x, y, z, rfl, hbl, hx, hd, g0, g1, g2⟩ := at3 H.out HR.out hlt
      have HX := Lib.hid hx
      have HC := Lib.hid (HT.out _ HR.out k x y z hx)
      clear hx hd
      by_cases he : Q ⟨x, y, z⟩
      · have HE := Lib.hid he
        clear he
        go_wp2_with (go_at_call 170; refine HC.out.mono ?_; intro e w2 hp; obtain ⟨rfl, hb2⟩ := hp.yes HE.out; have HB2 := Lib.hid (below_trans HR.out hb2); clear hb2 hp)
        go_ret
        exact ⟨_, rfl, .inr ⟨k, _, rfl, HX.out, HE.out, HN.out⟩, HB2.out⟩
      · have HE := Lib.hid he
        clear he
        go_wp2_with (go_at_call 170; refine HC.out.mono ?_; intro e w2 hp; obtain ⟨rfl, hb2⟩ := hp.no HE.out; have HB2 := Lib.hid (below_trans HR.out hb2); clear hb2 hp)
        go_roundw
        case rel => exact ⟨k + 1, by omega, by go_num, notYet_next HN.out HX.out HE.out, HB2.out⟩
        case measure => simp [intOf]; omega
    · have HL := Lib.hid (show k = xs.length by have := H.out.len; omega)
      go_wp2
      go_ret
      exact ⟨_, rfl, .inl ⟨rfl, fun i r hr => HN.out i r (by have := (List.getElem?_eq_some_iff.1 hr).1; have := HL.out; omega) hr⟩, HR.out⟩
set_option maxRecDepth 20000 in
set_option maxHeartbeats 400000 in
theorem rideTest_any (x y z t : Int) (g : Nat) (w : World) (ha : w.cell? ⟨g, 0, none⟩ = some (.int .i64 t)) :
    Calls Tryz.prog 169 #[.agg #[.int .i64 x, .int .i64 y, .int .i64 z], .pointer (some ⟨g, 0, none⟩)] w (OnlyB (x = t) w) := by
  have hla := World.block_lt_of_cell? w _ ha
  simp only at hla
  go_enter Tryz.func169, Tryz.ntmps169
  go_wp2
  go_ret
  exact ⟨_, rfl, by simp, below_alloc (Below.refl _ _) _⟩
set_option maxRecDepth 20000 in
set_option maxHeartbeats 400000 in
theorem lastTest_any (x y z t : Int) (g : Nat) (w : World) (ha : w.cell? ⟨g, 0, none⟩ = some (.int .i64 t)) :
    Calls Tryz.prog 223 #[.agg #[.int .i64 x, .int .i64 y, .int .i64 z], .pointer (some ⟨g, 0, none⟩)] w (OnlyB (x = t) w) := by
  have hla := World.block_lt_of_cell? w _ ha
  simp only at hla
  go_enter Tryz.func223, Tryz.ntmps223
  go_wp2
  go_ret
  exact ⟨_, rfl, by simp, below_alloc (Below.refl _ _) _⟩
set_option maxRecDepth 20000 in
set_option maxHeartbeats 400000 in
theorem townValid_any (n t : Int) (w : World) : Calls Tryz.prog 60 #[.int .i64 n, .int .i64 t] w (SameB (0 ≤ t ∧ t < n) w) := by
  go_enter Tryz.func60, Tryz.ntmps60
  go_wp2
  all_goals
    go_ret
    exact ⟨_, rfl, by simp <;> omega, rfl⟩
set_option maxRecDepth 20000 in
set_option maxHeartbeats 400000 in
theorem delayValid_any (t : Int) (w : World) : Calls Tryz.prog 125 #[.int .i64 t] w (SameB (0 ≤ t ∧ t ≤ 300) w) := by
  go_enter Tryz.func125, Tryz.ntmps125
  go_wp2
  all_goals
    go_ret
    exact ⟨_, rfl, by simp <;> omega, rfl⟩

/-! ### A letter's table in memory: the struct at block P, its times at block T -/
structure PtAt (P T : Nat) (N : Value) (s0 ch : Int) (n c : Nat) (f : Int → Int) (W : World) : Prop where
  ne : P ≠ T
  pl : P < W.heap.size
  tl : T < W.heap.size
  net : W.cell? ⟨P, 0, none⟩ = some N
  fst : W.cell? ⟨P, 1, none⟩ = some (.int .i64 s0)
  chg : W.cell? ⟨P, 2, none⟩ = some (.int .i64 ch)
  tms : W.cell? ⟨P, 3, none⟩ = some (.slice (some ⟨T, 0, none⟩) n c)
  at_ : ∀ k : Nat, k < n → W.cell? ⟨T, k, none⟩ = some (.int .i64 (f k))
  frz : ∀ j, W.frozen? ⟨T, j, none⟩ = false
section
variable {P T : Nat} {N : Value} {s0 ch : Int} {n c : Nat} {f : Int → Int} {W W' : World}
theorem PtAt.below (h : PtAt P T N s0 ch n c f W) (hb : Below W.heap.size W W') : PtAt P T N s0 ch n c f W' :=
  ⟨h.ne, Nat.lt_of_lt_of_le h.pl hb.size, Nat.lt_of_lt_of_le h.tl hb.size, by rw [hb.cell h.pl]; exact h.net, by rw [hb.cell h.pl]; exact h.fst, by rw [hb.cell h.pl]; exact h.chg, by rw [hb.cell h.pl]; exact h.tms, fun k hk => by rw [hb.cell h.tl]; exact h.at_ k hk, fun j => by rw [hb.frozen h.tl]; exact h.frz j⟩
theorem PtAt.put (h : PtAt P T N s0 ch n c f W) (k : Nat) (hk : k < n) (d : Int) : PtAt P T N s0 ch n c (updI f k d) (W.setCell ⟨T, k, none⟩ (.int .i64 d)) := by
  have hp : ∀ j, (W.setCell ⟨T, k, none⟩ (.int .i64 d)).cell? ⟨P, j, none⟩ = W.cell? ⟨P, j, none⟩ := fun j => World.cell?_setCell_other _ _ _ _ (fun e => h.ne (by injection e with e; exact e.symm))
  have hs : (W.setCell ⟨T, k, none⟩ (.int .i64 d)).heap.size = W.heap.size := by simp [World.setCell]
  refine ⟨h.ne, by rw [hs]; exact h.pl, by rw [hs]; exact h.tl, by rw [hp]; exact h.net, by rw [hp]; exact h.fst, by rw [hp]; exact h.chg, by rw [hp]; exact h.tms, fun j hj => ?_, fun j => by rw [World.frozen?_setCell]; exact h.frz j⟩
  by_cases e : j = k
  · subst e
    rw [World.cell?_setCell_same _ _ _ (h.at_ j hj), updI_self]
  · rw [World.cell?_setCell_other _ _ _ _ (fun h2 => e (by injection h2 with _ h3; exact h3.symm)), h.at_ j hj, updI_ne (by omega)]
end

set_option maxRecDepth 20000 in
set_option maxHeartbeats 1600000 in
theorem canTake_any {P T : Nat} {N : Value} {s0 ch : Int} {n c : Nat} {f : Int → Int} (x : Nat) (y z : Int) (W : World) (h : PtAt P T N s0 ch n c f W) (hx : x < n) (hc : n ≤ c) (hf : -1 ≤ f x ∧ f x ≤ 10000) (hch : 0 ≤ ch ∧ ch ≤ 10000) :
    Calls Tryz.prog 170 #[.pointer (some ⟨P, 0, none⟩), .agg #[.int .i64 x, .int .i64 y, .int .i64 z]] W (OnlyB (Rdy f s0 ch ⟨x, y, z⟩) W) := by
  obtain ⟨hne, hpl, htl, g0, g1, g2, g3, gt, -⟩ := h
  have gx := gt x hx
  generalize hv : f x = v at *
  have HV := Lib.hid hv
  have hR : Hid (Rdy f s0 ch ⟨x, y, z⟩ ↔ 0 ≤ v ∧ v + lag s0 ch x ≤ z) := Lib.hid (by unfold Rdy; dsimp only; rw [hv])
  have HB := Lib.hid (below_alloc (Below.refl W.heap.size W) (.cells #[.int .i64 (x : Int), .int .i64 y, .int .i64 z] 103))
  have hxn : (x : Int) < (n : Int) := by omega
  clear gt hv
  by_cases hv0 : v < 0
  · have HN := Lib.hid (show ¬ Rdy f s0 ch ⟨x, y, z⟩ from fun h => by have := hR.out.1 h; omega)
    go_enter Tryz.func170, Tryz.ntmps170
    go_wp2_with fail
    go_quiet (fail)
    go_wp2_with fail
    go_ret
    exact onlyB_false HN.out (bl_drewN HB.out _)
  by_cases hs : (x : Int) = s0
  · have ds : ((x : Int) != s0) = false := by simpa using hs
    have HR2 : Hid (Rdy f s0 ch ⟨x, y, z⟩ ↔ v ≤ z) := Lib.hid (by rw [hR.out]; unfold lag; rw [if_pos hs]; omega)
    clear hs
    by_cases hz : v ≤ z
    · have HZ := Lib.hid hz
      go_enter Tryz.func170, Tryz.ntmps170
      go_wp2_with fail
      go_quiet (fail)
      go_wp2_with fail
      go_quiet (fail)
      go_wp2_with fail
      go_ret
      exact onlyB_true (HR2.out.2 HZ.out) (bl_drewN HB.out _)
    · have HZ := Lib.hid hz
      go_enter Tryz.func170, Tryz.ntmps170
      go_wp2_with fail
      go_quiet (fail)
      go_wp2_with fail
      go_quiet (fail)
      go_wp2_with fail
      go_ret
      exact ⟨decide (v ≤ z), rfl, by rw [HR2.out]; exact decide_eq_true_iff, bl_drewN HB.out _⟩
  · have ds : ((x : Int) != s0) = true := by simpa using hs
    have HR2 : Hid (Rdy f s0 ch ⟨x, y, z⟩ ↔ v + ch ≤ z) := Lib.hid (by rw [hR.out]; unfold lag; rw [if_neg hs]; omega)
    have ew : IntKind.i64.wrap (v + ch) = v + ch := IntWalk.i64_in _ (by omega)
    clear hs
    by_cases hz : v + ch ≤ z
    · have HZ := Lib.hid hz
      go_enter Tryz.func170, Tryz.ntmps170
      go_wp2_with fail
      go_quiet (fail)
      go_wp2_with fail
      go_quiet (fail)
      go_wp2_with fail
      go_ret
      exact onlyB_true (HR2.out.2 HZ.out) (bl_drewN HB.out _)
    · have HZ := Lib.hid hz
      go_enter Tryz.func170, Tryz.ntmps170
      go_wp2_with fail
      go_quiet (fail)
      go_wp2_with fail
      go_quiet (fail)
      go_wp2_with fail
      go_ret
      exact ⟨decide (v + ch ≤ z), rfl, by rw [HR2.out]; exact decide_eq_true_iff, bl_drewN HB.out _⟩

/-- How reach ends. -/
def Reached (P T : Nat) (N : Value) (s0 ch : Int) (n c : Nat) (f : Int → Int) (v t : Int) (W : World) (e : Ending) (W' : World) : Prop :=
  (e = .returned (.bool false) ∧ (0 ≤ f v ∧ f v ≤ t) ∧ W = W') ∨ (e = .returned (.bool true) ∧ (f v < 0 ∨ t < f v) ∧ PtAt P T N s0 ch n c (updI f v t) W' ∧ W.grownBy W' (some T))
set_option maxRecDepth 20000 in
set_option maxHeartbeats 1600000 in
theorem reach_any {P T : Nat} {N : Value} {s0 ch : Int} {n c : Nat} {f : Int → Int} (v : Nat) (t : Int) (W : World) (h : PtAt P T N s0 ch n c f W) (hx : v < n) (hc : n ≤ c) :
    Calls Tryz.prog 129 #[.pointer (some ⟨P, 0, none⟩), .int .i64 v, .int .i64 t] W (Reached P T N s0 ch n c f v t W) := by
  have HP := Lib.hid (h.put v hx t)
  have HG := Lib.hid (show W.grownBy (W.setCell ⟨T, v, none⟩ (.int .i64 t)) (some T) from ⟨rfl, rfl, rfl, by simp, fun j hj hne => Below.heap_setCell W _ _ j (fun e => hne (by rw [e]))⟩)
  obtain ⟨hne, hpl, htl, g0, g1, g2, g3, gt, gf⟩ := h
  have gx := gt v hx
  have gf := gf v
  have hvn : (v : Int) < (n : Int) := by omega
  generalize hu : f v = u at *
  have HU := Lib.hid hu
  clear gt hu
  by_cases h0 : 0 ≤ u
  · by_cases h1 : u ≤ t
    · go_enter Tryz.func129, Tryz.ntmps129
      go_wp2_with fail
      go_ret
      exact .inl ⟨rfl, by rw [HU.out]; exact ⟨h0, h1⟩, rfl⟩
    · go_enter Tryz.func129, Tryz.ntmps129
      go_wp2_with fail
      go_ret
      exact .inr ⟨rfl, by rw [HU.out]; omega, HP.out, HG.out⟩
  · go_enter Tryz.func129, Tryz.ntmps129
    go_wp2_with fail
    go_ret
    exact .inr ⟨rfl, by rw [HU.out]; omega, HP.out, HG.out⟩
end Go.Proofs.YtgjllminidlolaaGreatDoor
