/- Contracts: what the functions on tolls have in common: l8Ok, tollsValid, l8Has, l8Freed, tickets, sums of tolls. -/
import Derived.Test.YtngbpdijempkpaaGWalkB
import Derived.Test.YtngbpdijempkpaaTPlainC
import Derived.StillTailTactics
import Derived.RegionTactic
import Derived.ChangeAlike
set_option linter.unusedVariables false
namespace Go.Proofs.Ytngbpdijempkpaa
open Go.RowKit

/-- Gates and all numbers. -/
def TollOk (xs : List T3) (free f t : Int) : Prop := WayOk xs f t ∧ 0 ≤ free ∧ free ≤ 999

set_option maxRecDepth 20000 in
set_option maxHeartbeats 800000 in
theorem l8Ok_any (A : Option Addr) (len cap : Nat) (xs : List T3) (free f t : Int) (w : World) (h : SlE 3 enc3 w A len xs) (hn : len ≤ 16777216) :
    Calls Try.prog 57 #[.slice A len cap, .int .i64 free, .int .i64 f, .int .i64 t] w (OnlyB (TollOk xs free f t) w) := by
  have H := Lib.hid h
  clear h
  have HW : Hid (TollOk xs free f t ↔ WayOk xs f t ∧ 0 ≤ free ∧ free ≤ 999) := Iff.rfl
  go_enter Try.func57, Try.ntmps57
  go_wp2_with fail
  refine (l8Way_any A len cap xs f t w H.out hn).mono ?_
  intro e w1 hp
  rcases hp.cases with ⟨rfl, hg, hb1⟩ | ⟨rfl, hg, hb1⟩
  · have HB1 := Lib.hid hb1
    have HG := Lib.hid hg
    clear hb1 hp hg
    go_wp2_with (go_at_call 51; refine (l6In_any _ _ _ _).mono ?_; intro e w2 hp; rcases hp.cases with ⟨rfl, hp, rfl⟩ | ⟨rfl, hp, rfl⟩)
    all_goals first
      | (go_ret; exact onlyB_false (fun h => by have := HW.out.1 h; omega) HB1.out)
      | (go_ret; exact onlyB_true (HW.out.2 ⟨HG.out, by omega, by omega⟩) HB1.out)
  · have HB1 := Lib.hid hb1
    have HG := Lib.hid hg
    clear hb1 hp hg
    go_wp2
    go_ret
    exact onlyB_false (fun h => HG.out (HW.out.1 h).1) HB1.out

set_option maxRecDepth 20000 in
set_option maxHeartbeats 800000 in
theorem tollsValid_any (A : Option Addr) (len cap : Nat) (xs : List T3) (free f t : Int) (w : World) (h : SlE 3 enc3 w A len xs) (hn : len ≤ 16777216) :
    Calls Try.prog 53 #[.slice A len cap, .int .i64 free, .int .i64 f, .int .i64 t] w (OnlyB (TollOk xs free f t) w) := by
  have H := Lib.hid h
  clear h
  have HW : Hid (TollOk xs free f t ↔ (GatesOk xs ∧ (0 ≤ f ∧ f ≤ 1000) ∧ (0 ≤ t ∧ t ≤ 1000)) ∧ 0 ≤ free ∧ free ≤ 999) := Iff.rfl
  go_enter Try.func53, Try.ntmps53
  go_wp2_with fail
  refine (implGatesValid_any A len cap xs w H.out hn).mono ?_
  intro e w1 hp
  rcases hp.cases with ⟨rfl, hg, hb1⟩ | ⟨rfl, hg, hb1⟩
  · have HB1 := Lib.hid hb1
    have HG := Lib.hid hg
    clear hb1 hp hg
    go_wp2_with (go_at_call 60; refine (mileValid_any _ _).mono ?_; intro e w2 hp; rcases hp.cases with ⟨rfl, hp, rfl⟩ | ⟨rfl, hp, rfl⟩)
    all_goals first
      | (go_ret; exact onlyB_false (fun h => by have := HW.out.1 h; omega) HB1.out)
      | (go_ret; exact onlyB_true (HW.out.2 ⟨⟨HG.out, by omega, by omega⟩, by omega, by omega⟩) HB1.out)
  · have HB1 := Lib.hid hb1
    have HG := Lib.hid hg
    clear hb1 hp hg
    go_wp2
    go_ret
    exact onlyB_false (fun h => HG.out (HW.out.1 h).1.1) HB1.out

theorem mem_take_next {xs : List Int} {k : Nat} {x n : Int} (h : xs[k]? = some x) (hn : n ∉ xs.take k) (hx : ¬ x = n) : n ∉ xs.take (k + 1) := by
  rw [take_next h, List.mem_append, List.mem_singleton]
  rintro (h | h)
  · exact hn h
  · exact hx h.symm
set_option maxRecDepth 20000 in
set_option maxHeartbeats 800000 in
theorem l8Has_any (A : Option Addr) (len cap : Nat) (xs : List Int) (n : Int) (w : World) (h : SlE 1 encI w A len xs) (hn : len ≤ 16777216) :
    Calls Try.prog 62 #[.slice A len cap, .int .i64 n] w (SameB (n ∈ xs) w) := by
  have H := Lib.hid h
  have HL := Lib.hid h.len
  clear h
  go_enter Try.func62, Try.ntmps62
  go_wp2
  go_loop [5] (fun i => ∃ k : Nat, k ≤ len ∧ i = .int .i64 k ∧ n ∉ xs.take k) (fun i => len - (intOf i).toNat)
  case atStart => exact ⟨0, by omega, rfl, by simp⟩
  case round =>
    obtain ⟨k, hk, rfl, hno⟩ := hrel
    have HNO := Lib.hid hno
    clear hno
    by_cases hlt : k < len
    · obtain ⟨b, off, x, rfl, hbl, hx, hd, h0⟩ := at1 H.out (Below.refl _ w) hlt
      have HX := Lib.hid hx
      clear hx hd
      by_cases he : x = n
      · subst he
        go_wp2
        go_ret
        exact ⟨true, rfl, by simp [mem_at HX.out], rfl⟩
      · have h3' : (x == n) = false := by simpa using he
        have HE := Lib.hid he
        clear he
        go_wp2
        go_round
        case rel => exact ⟨k + 1, by omega, by go_num, mem_take_next HX.out HNO.out HE.out⟩
        case measure => simp [intOf]; omega
    · have hx : xs.take k = xs := List.take_of_length_le (by have := HL.out; omega)
      rw [hx] at HNO
      go_wp2
      go_ret
      exact ⟨false, rfl, by simp [HNO.out], rfl⟩

/-- All of these are indexes of gates. -/
def IdxOf (len : Nat) (ps : List Int) : Prop := ∀ i ∈ ps, 0 ≤ i ∧ i < len
theorem not_freed_next {g : Int → T3} {free i : Int} {ps : List Int} {k : Nat} {q : Int} (h : ps[k]? = some q) (hn : ¬ Freed g free (ps.take k) i) (hq : ¬ (q < i ∧ (g q).b = (g i).b ∧ (g i).a - (g q).a ≤ free)) : ¬ Freed g free (ps.take (k + 1)) i := by
  rintro ⟨x, hx, h1⟩
  rw [take_next h, List.mem_append, List.mem_singleton] at hx
  rcases hx with hx | rfl
  · exact hn ⟨x, hx, h1⟩
  · exact hq h1
set_option maxRecDepth 20000 in
set_option maxHeartbeats 1600000 in
theorem l8Freed_any (A B : Option Addr) (len cap m c : Nat) (xs : List T3) (free : Int) (ps : List Int) (i : Nat) (w : World) (h : SlE 3 enc3 w A len xs) (h' : SlE 1 encI w B m ps) (hn : len ≤ 16777216) (hm : m ≤ 16777216)
    (hG : GatesOk xs) (hi : i < len) (hps : IdxOf len ps) :
    Calls Try.prog 59 #[.slice A len cap, .int .i64 free, .slice B m c, .int .i64 i] w (OnlyB (Freed (gAt xs) free ps i) w) := by
  have H := Lib.hid h
  have H' := Lib.hid h'
  have HL := Lib.hid h'.len
  have HP := Lib.hid hps
  obtain ⟨b0, off0, x0, y0, z0, rfl, hbl0, hx0, hd0, i0, i1, i2⟩ := at3 h (Below.refl _ w) hi
  have hg0 := hG.2 i _ hx0
  unfold GOk at hg0
  have HX0 := Lib.hid (gAt_at hx0)
  simp only at hg0
  have HG := Lib.hid hG
  have hkeep : ∀ w', Below w.heap.size w w' → w'.cell? ⟨b0, off0 + i * 3, none⟩ = some (.int .i64 x0) ∧ w'.cell? ⟨b0, off0 + i * 3 + 1, none⟩ = some (.int .i64 y0) := fun w' hw => ⟨(hw.cell (p := ⟨b0, _, none⟩) hbl0).trans i0, (hw.cell (p := ⟨b0, _, none⟩) hbl0).trans i1⟩
  have HK := Lib.hid hkeep
  clear h h' hps hx0 hd0 i0 i1 i2 hG hkeep
  go_enter Try.func59, Try.ntmps59
  go_wp2
  go_loopw [9, 10] (fun j _ wr => ∃ k : Nat, k ≤ m ∧ j = .int .i64 k ∧ ¬ Freed (gAt xs) free (ps.take k) i ∧ Below w.heap.size w wr) (fun j _ _ => m - (intOf j).toNat)
  case atStart => exact ⟨0, by omega, rfl, fun ⟨x, hx, _⟩ => by simp at hx, Below.refl _ _⟩
  case round =>
    obtain ⟨k, hk, rfl, hno, hbr⟩ := hrel
    have HNO := Lib.hid hno
    have HR := Lib.hid hbr
    clear hno hbr
    by_cases hlt : k < m
    · obtain ⟨b, off, q, rfl, hbl, hx, hd, h0⟩ := at1 H'.out HR.out hlt
      obtain ⟨hq0, hq1⟩ := HP.out q (mem_at hx)
      obtain ⟨q, rfl⟩ : ∃ n : Nat, q = n := ⟨q.toNat, by omega⟩
      have hq1' : q < len := by omega
      obtain ⟨b1, off1, x, y, z, hA, hbl1, hx1, hd1, g0, g1, g2⟩ := at3 H.out HR.out hq1'
      injection hA with hA
      injection hA with e1 e2
      subst e1 e2
      have hgq := HG.out.2 q _ hx1
      unfold GOk at hgq
      simp only at hgq
      obtain ⟨hxa, hxb⟩ : 0 ≤ x ∧ x ≤ 999 := ⟨by omega, by omega⟩
      have HX1 := Lib.hid (gAt_at hx1)
      have HX := Lib.hid hx
      have HNN := Lib.hid (fun hq => not_freed_next hx HNO.out hq)
      rw [HX1.out, HX0.out] at HNN
      simp only at HNN
      obtain ⟨f0, f1⟩ := HK.out wr HR.out
      clear hx hd hx1 hd1 hgq
      go_wp2_with fail
      have x1 : IntKind.i64.wrap (x0 - x) = x0 - x := IntWalk.i64_in _ (by omega)
      by_cases hqi : (q : Int) < (i : Int)
      · have hqi' : q < i := by omega
        by_cases hy : y = y0
        · subst hy
          by_cases hf : x0 - x ≤ free
          · have HFR : Hid (Freed (gAt xs) free ps i) := ⟨q, mem_at HX.out, hqi, by rw [HX1.out, HX0.out], by rw [HX1.out, HX0.out]; exact hf⟩
            go_quiet (fail)
            go_wp2
            go_ret
            exact onlyB_true HFR.out (below_drewN (below_alloc HR.out _) _)
          · have hd3 : decide (x0 - x ≤ free) = false := by simp; omega
            have HN2 := Lib.hid (HNN.out (by omega))
            go_quiet (fail)
            go_wp2
            go_roundw
            case rel => exact ⟨k + 1, by omega, by go_num, HN2.out, below_drewN (below_alloc HR.out _) _⟩
            case measure => simp [intOf]; omega
        · have h3' : (y == y0) = false := by simpa using hy
          have HN2 := Lib.hid (HNN.out (by omega))
          clear hy
          go_quiet (fail)
          go_wp2
          go_roundw
          case rel => exact ⟨k + 1, by omega, by go_num, HN2.out, below_drewN (below_alloc HR.out _) _⟩
          case measure => simp [intOf]; omega
      · have hd1 : decide ((q : Int) < (i : Int)) = false := by simp; omega
        have hd2 : decide (q < i) = false := by simp; omega
        have HN2 := Lib.hid (HNN.out (by omega))
        go_quiet (fail)
        go_wp2
        go_roundw
        case rel => exact ⟨k + 1, by omega, by go_num, HN2.out, below_drewN (below_alloc HR.out _) _⟩
        case measure => simp [intOf]; omega
    · have hx : ps.take k = ps := List.take_of_length_le (by have := HL.out; omega)
      rw [hx] at HNO
      clear hx
      go_wp2
      go_ret
      exact onlyB_false HNO.out HR.out

/-! ### Tickets -/
def tkL (c : Int → Int) : List Int := [c 0, c 1, c 2, c 3]
/-- The tickets c lie in block T, one of the call's own. -/
def TkAt (base : Nat) (w : World) (T : Nat) (c : Int → Int) : Prop := OwnE 1 encI 82 base w (.slice (some ⟨T, 0, none⟩) 4 4) (tkL c)
theorem tkL_at {c : Int → Int} {t : Nat} (h : t < 4) : (tkL c)[t]? = some (c t) := by
  rcases t with _ | _ | _ | _ | t
  · rfl
  · rfl
  · rfl
  · rfl
  · omega
theorem tkL_set {g : Int → T3} {free : Int} {c : Int → Int} {i : Int} {t : Nat} (h : t < 4) (ht : (g i).b = t) : (tkL c).set t ((g i).a + free) = tkL (up g free c i) := by
  unfold tkL up
  rw [ht]
  rcases t with _ | _ | _ | _ | t
  · simp
  · simp
  · simp
  · simp
  · omega
theorem TkAt.cell {base : Nat} {w : World} {T : Nat} {c : Int → Int} (h : TkAt base w T c) {t : Nat} (ht : t < 4) : w.cell? ⟨T, t, none⟩ = some (.int .i64 (c t)) := OwnE.cell1 h (tkL_at ht)
theorem TkAt.lt {base : Nat} {w : World} {T : Nat} {c : Int → Int} (h : TkAt base w T c) : base ≤ T ∧ T < w.heap.size := OwnE.lt h T rfl
theorem TkAt.below {base B : Nat} {w w' : World} {T : Nat} {c : Int → Int} (h : TkAt base w T c) (hb : Below B w w') (hB : w.heap.size ≤ B) : TkAt base w' T c := OwnE.below h hb hB
theorem TkAt.apart {base : Nat} {w w' : World} {T : Nat} {c : Int → Int} {row : Option Nat} (h : TkAt base w T c) (hg : w.grownBy w' row) (hne : row ≠ some T) : TkAt base w' T c := OwnE.apart h hg (.inr (fun e => hne e.symm))

set_option maxRecDepth 20000 in
set_option maxHeartbeats 400000 in
theorem newTickets_any (w : World) : Calls Try.prog 54 #[] w fun e w' => e = .returned (.pointer (some ⟨w.heap.size, 0, none⟩)) ∧ TkAt w.heap.size w' w.heap.size (fun _ => -1) ∧ Below w.heap.size w w' ∧ w.heap.size < w'.heap.size := by
  have HT : ∀ cs : Array Value, cs = #[.int .i64 (-1), .int .i64 (-1), .int .i64 (-1), .int .i64 (-1)] → TkAt w.heap.size (w.alloc (.cells cs 82)) w.heap.size (fun _ => -1) := fun cs h => own_new (enc := encI) (k := 1) w 82 w.heap.size (Nat.le_refl _) encI_len (tkL fun _ => -1) cs (by subst h; rfl) (by simp [tkL, maxLen]) rfl
  have HT' := Lib.hid HT
  clear HT
  go_enter Try.func54, Try.ntmps54
  go_wp2
  go_ret
  exact ⟨rfl, HT'.out _ rfl, below_alloc (Below.refl _ _) _, by simp⟩

set_option maxRecDepth 20000 in
set_option maxHeartbeats 800000 in
theorem frees_any (base T : Nat) (c : Int → Int) (x z : Int) (y : Nat) (w : World) (h : TkAt base w T c) (hy : y < 4) :
    Calls Try.prog 55 #[.pointer (some ⟨T, 0, none⟩), .agg #[.int .i64 x, .int .i64 y, .int .i64 z]] w (OnlyB (x ≤ c y) w) := by
  have hc := h.cell hy
  have hT := h.lt.2
  have h0 : (0 : Int) ≤ (y : Int) := by omega
  have h4 : (y : Int) < 4 := by omega
  clear h
  go_enter Try.func55, Try.ntmps55
  go_wp2_with fail
  go_quiet (fail)
  go_wp2
  go_ret
  exact ⟨_, rfl, by simp, below_drewN (below_alloc (Below.refl _ _) _) _⟩

set_option maxRecDepth 20000 in
set_option maxHeartbeats 800000 in
theorem pay_any (base T : Nat) (g : Int → T3) (free : Int) (c : Int → Int) (i : Int) (y : Nat) (z : Int) (w : World) (h : TkAt base w T c) (hy : y < 4) (hgy : (g i).b = y) (ha : 0 ≤ (g i).a ∧ (g i).a ≤ 999) (hf : 0 ≤ free ∧ free ≤ 999) (hbase : base ≤ w.heap.size) :
    Calls Try.prog 56 #[.pointer (some ⟨T, 0, none⟩), .agg #[.int .i64 (g i).a, .int .i64 y, .int .i64 z], .int .i64 free] w fun e w' => e = .returned (.tuple #[]) ∧ TkAt base w' T (up g free c i) ∧ w.grownBy w' (some T) := by
  have hc := h.cell hy
  have hT := h.lt.2
  have h0 : (0 : Int) ≤ (y : Int) := by omega
  have h4 : (y : Int) < 4 := by omega
  have HY := Lib.hid (tkL_set (g := g) (free := free) (c := c) hy hgy)
  have HH := Lib.hid h
  obtain ⟨ha0, ha1⟩ := ha
  obtain ⟨hf0, hf1⟩ := hf
  have fz := OwnE.frozen h
  clear h hgy
  generalize (g i).a = x at *
  have x1 : IntKind.i64.wrap (x + free) = x + free := IntWalk.i64_in _ (by omega)
  go_enter Try.func56, Try.ntmps56
  go_wp2_with fail
  go_region
  go_end0
  have hs := own1_set HH.out rfl y (x + free)
  rw [HY.out] at hs
  have hg := grown_trans hs.2 (World.grownBy_alloc (w.setCell ⟨T, y, none⟩ (.int .i64 (x + free))) (.cells #[.int .i64 x, .int .i64 y, .int .i64 z] 31) (some T))
  exact ⟨rfl, (hs.1.alloc _).drew, ⟨hg.os, hg.tape, hg.output, hg.size, hg.block⟩⟩

theorem sumC_next {g : Int → T3} {ps : List Int} {k : Nat} {i : Int} (h : ps[k]? = some i) : sumC g (ps.take (k + 1)) = sumC g (ps.take k) + (g i).c := by
  rw [take_next h, sumC_append]; simp [sumC]
theorem sumC_bd {g : Int → T3} : ∀ ps : List Int, (∀ i ∈ ps, 1 ≤ (g i).c ∧ (g i).c ≤ 99) → (0 : Int) ≤ sumC g ps ∧ sumC g ps ≤ 99 * ps.length
  | [], _ => by simp [sumC]
  | i :: ps, h => by
    have h1 := sumC_bd ps fun j hj => h j (List.mem_cons_of_mem _ hj)
    have h2 := h i (List.mem_cons_self ..)
    rw [sumC_cons]
    simp only [List.length_cons]
    omega
set_option maxRecDepth 20000 in
set_option maxHeartbeats 1600000 in
theorem tollsOf_any (A B : Option Addr) (len cap m c : Nat) (xs : List T3) (ps : List Int) (w : World) (h : SlE 3 enc3 w A len xs) (h' : SlE 1 encI w B m ps) (hn : len ≤ 16777216) (hm : m ≤ 16777216)
    (hG : GatesOk xs) (hps : IdxOf len ps) :
    Calls Try.prog 64 #[.slice A len cap, .slice B m c] w (Same (.int .i64 (sumC (gAt xs) ps)) w) := by
  have H := Lib.hid h
  have H' := Lib.hid h'
  have HL := Lib.hid h'.len
  have HP := Lib.hid hps
  have HG := Lib.hid hG
  have hbd : ∀ k, (0 : Int) ≤ sumC (gAt xs) (ps.take k) ∧ sumC (gAt xs) (ps.take k) ≤ 99 * ((ps.take k).length : Nat) := fun k => sumC_bd _ fun i hi => by
    obtain ⟨h0, h1⟩ := hps i (List.mem_of_mem_take hi)
    obtain ⟨j, rfl⟩ : ∃ n : Nat, i = n := ⟨i.toNat, by omega⟩
    have hj : j < xs.length := by rw [h.len]; omega
    have e := List.getElem?_eq_getElem hj
    rw [gAt_at e]
    have := hG.2 j _ e
    unfold GOk at this
    omega
  have HBD := Lib.hid hbd
  clear h h' hps hG hbd
  go_enter Try.func64, Try.ntmps64
  go_wp2
  go_loop [10, 5, 7] (fun j s _ => ∃ k : Nat, k ≤ m ∧ j = .int .i64 k ∧ s = .int .i64 (sumC (gAt xs) (ps.take k))) (fun j _ _ => m - (intOf j).toNat)
  case atStart => exact ⟨0, by omega, rfl, rfl⟩
  case round =>
    obtain ⟨k, hk, rfl, rfl⟩ := hrel
    by_cases hlt : k < m
    · obtain ⟨b, off, q, rfl, hbl, hx, hd, h0⟩ := at1 H'.out (Below.refl _ w) hlt
      obtain ⟨hq0, hq1⟩ := HP.out q (mem_at hx)
      obtain ⟨q, rfl⟩ : ∃ n : Nat, q = n := ⟨q.toNat, by omega⟩
      have hq1' : q < len := by omega
      obtain ⟨b1, off1, x, y, z, rfl, hbl1, hx1, hd1, g0, g1, g2⟩ := at3 H.out (Below.refl _ w) hq1'
      have hgq := HG.out.2 q _ hx1
      unfold GOk at hgq
      simp only at hgq
      obtain ⟨hza, hzb⟩ : 1 ≤ z ∧ z ≤ 99 := ⟨by omega, by omega⟩
      have HX := sumC_next (g := gAt xs) hx
      rw [gAt_at hx1] at HX
      have HX := Lib.hid HX
      have hb := HBD.out k
      have hl : (ps.take k).length ≤ k := List.length_take_le _ _
      clear hx hd hx1 hd1 hgq
      generalize sumC (gAt xs) (ps.take k) = s at *
      go_wp2
      go_round
      case rel => exact ⟨k + 1, by omega, by go_num, by rw [HX.out]⟩
      case measure => simp [intOf]; omega
    · have hx : ps.take k = ps := List.take_of_length_le (by have := HL.out; omega)
      rw [hx]
      clear hx
      go_wp2
      go_ret
      exact ⟨rfl, rfl⟩
end Go.Proofs.Ytngbpdijempkpaa
