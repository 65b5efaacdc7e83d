/- Contracts: l93Paid, DrawTollValid and DrawTollSum: gates, a way and a list that are often payments. -/
import Derived.Test.YtngbpdijempkpaaDrawT
import Derived.Test.YtngbpdijempkpaaTWalkI
import Derived.Test.YtngbpdijempkpaaTWalkD
import Derived.Test.YtngbpdijempkpaaGWalkB
import Derived.Test.YtngbpdijempkpaaTPlainF
set_option linter.unusedVariables false
namespace Go.Proofs.Ytngbpdijempkpaa
open Go.RowKit

theorem results_tmp5 {fn : Func} {t u v x y : Tmp} (h : fn.results = #[.tmp t, .tmp u, .tmp v, .tmp x, .tmp y]) (tmps : Array Value) (P : Program) (w : World) :
    (results fn tmps).run P w = .ok (.tuple #[tmps.getD t undef, tmps.getD u undef, tmps.getD v undef, tmps.getD x undef, tmps.getD y undef]) w := by
  simp [results, h]
theorem DG.below {w W W' : World} {R m : Nat} {v : Value} {xs : List T3} (h : DG w R m v xs W) (hb : Below W.heap.size W W') : DG w R m v xs W' :=
  ⟨h.1, h.2.1.below hb (Nat.le_refl _), grown_below h.2.2.1 hb, h.2.2.2.1.below hb (Nat.le_refl _), h.2.2.2.2⟩
/-- Ints of the draw's own, apart from the reader. -/
theorem ints_apart {w W W' : World} {R : Nat} {u : Value} {ys : List Int} (hR : R < w.heap.size) (h : OwnE 1 encI 3 w.heap.size W u ys) (hg : W.grownBy W' (some R)) : OwnE 1 encI 3 w.heap.size W' u ys := by
  refine OwnE.apart h hg ?_
  by_cases e : u.ownBlock = some R
  · have := (h.lt R e).1
    omega
  · exact .inr e
/-- How l93Paid ends. -/
def DrawnP (w : World) (R m : Nat) (e : Ending) (w' : World) : Prop :=
  ∃ v xs free x y u ys, e = .returned (.tuple #[v, .int .i64 free, .int .i64 x, .int .i64 y, u]) ∧ xs.length ≤ 8 ∧ (-2000 ≤ free ∧ free ≤ 2000) ∧ (-2000 ≤ x ∧ x ≤ 2000) ∧ (-2000 ≤ y ∧ y ≤ 2000) ∧ ys.length ≤ 10 ∧ DG w R m v xs w' ∧ OwnE 1 encI 3 w.heap.size w' u ys
/-- The paid list behind the first choice. -/
def PaidAt (w : World) (R m : Nat) (v : Value) (xs : List T3) (u : Value) (W : World) : Prop :=
  ∃ ys : List Int, ys.length ≤ 10 ∧ DG w R m v xs W ∧ OwnE 1 encI 3 w.heap.size W u ys

set_option maxRecDepth 20000 in
set_option maxHeartbeats 6400000 in
theorem l93Paid_any (R m : Nat) (w : World) (h : RdAt w R m) (hm : m ≤ 30000) :
    Calls Try.prog 61 #[.pointer (some ⟨R, 0, none⟩)] w (DrawnP w R (m + 60)) := by
  have H := Lib.hid h
  have hRw := h.lt
  clear h
  go_enter Try.func61, Try.ntmps61
  go_wp2_with fail
  refine (l93Toll_any R m w H.out (by omega)).mono ?_
  rintro e w1 ⟨v, xs, free, x, y, rfl, hl, hf, hx, hy, hd⟩
  obtain ⟨A, c, rfl, -, hlc⟩ := hd.2.2.2.1.slc enc3_len rfl
  have D1 := Lib.hid hd
  have HF := Lib.hid (And.intro hf (And.intro hx hy))
  generalize hlen : xs.length = len at *
  have HL := Lib.hid hlen
  clear hd H hf hx hy hlen
  by_cases hok : TollOk xs free x y
  · have HOK := Lib.hid hok
    have hps := idxIf_asc (f := inW x y) hok.1.1
    have hpl : (idxIf (inW x y) xs).length ≤ 10 := Nat.le_trans (idxIf_len (inW x y) xs) (by rw [HL.out]; omega)
    have hm1 : (must (gAt xs) free (idxIf (inW x y) xs)).length ≤ 10 := Nat.le_trans (must_pays hok.2.1 hps).1.length_le hpl
    have hm2 : (best (gAt xs) free (idxIf (inW x y) xs) (fun _ => -1)).length ≤ 10 := Nat.le_trans (best_pays hok.2.1 hps).1.length_le hpl
    have HM : Hid (MustIs xs free x y (must (gAt xs) free (idxIf (inW x y) xs)) true) := .inl ⟨rfl, hok, rfl⟩
    have HBE : Hid (BestIs xs (TollOk xs free x y) x y free (best (gAt xs) free (idxIf (inW x y) xs) (fun _ => -1)) true) := .inl ⟨rfl, hok, rfl⟩
    have HPS : Hid (∀ W : World, SlE 3 enc3 W A len xs → Calls Try.prog 58 #[.slice A len c, .int .i64 x, .int .i64 y] W (RetOwn 1 encI 3 (idxIf (inW x y) xs) W)) := fun W h1 => specGatesPassed_any A len c xs x y _ W h1 (by omega) (.inl ⟨HOK.out.1, rfl⟩)
    clear hok hps
    generalize must (gAt xs) free (idxIf (inW x y) xs) = ms at *
    generalize best (gAt xs) free (idxIf (inW x y) xs) (fun _ => -1) = bs at *
    generalize idxIf (inW x y) xs = ps at *
    go_wp2_with fail
    refine (specTollMust_any A len c xs free x y ms true w1 (sl_of_own_at enc3_len D1.out.2.2.2.1 HL.out) (by omega) HM.out).mono ?_
    rintro e w2 ⟨u, rfl, hown2, hb2⟩
    have D2 := Lib.hid (D1.out.below hb2)
    have hz1 := D1.out.size
    have M2 := Lib.hid (hown2.base_le hz1)
    clear hown2 hb2 D1
    go_wp2_with fail
    refine (pick_any R (m + 50) 3 w2 D2.out.2.1 (by omega) (by omega)).mono ?_
    rintro e w3 ⟨q, rfl, q0, q1, -, hr, hg⟩
    have D3 := Lib.hid (D2.out.pick hr hg)
    have M3 := Lib.hid (ints_apart hRw M2.out hg)
    clear hr hg D2 M2 q1
    have HRES : Hid (∀ (W : World) (u : Value) (l : List Int) (m' : Nat), m' ≤ m + 60 → DG w R m' (.slice A len c) xs W → l.length ≤ 10 → OwnE 1 encI 3 w.heap.size W u l → DrawnP w R (m + 60) (.returned (.tuple #[.slice A len c, .int .i64 free, .int .i64 x, .int .i64 y, u])) W) :=
      fun W u l m' h1 h2 h3 h4 => ⟨_, xs, free, x, y, u, l, rfl, by rw [HL.out]; exact hl, HF.out.1, HF.out.2.1, HF.out.2.2, h3, ⟨h2.1, h2.2.1.mono h1, h2.2.2⟩, h4⟩
    have hw1 := D3.out.size
    obtain ⟨A2, c2, rfl, -, hc2⟩ := M3.out.slc encI_len rfl
    generalize hmsl : ms.length = ml at *
    have HMS := Lib.hid hmsl
    clear hmsl
    by_cases e0 : q = 0
    · go_wp2_with fail
      refine (specTollBest_any A len c xs free x y bs true w3 (sl_of_own_at enc3_len D3.out.2.2.2.1 HL.out) (by omega) HBE.out).mono ?_
      rintro e w4 ⟨u4, rfl, hown4, hb4⟩
      have D4 := Lib.hid (D3.out.below hb4)
      have M4 := Lib.hid (hown4.base_le hw1)
      obtain ⟨A4, c4, rfl, -, hc4⟩ := hown4.slc encI_len rfl
      generalize hbsl : bs.length = bl at *
      have HBS := Lib.hid hbsl
      clear hown4 hb4 D3 M3 hbsl
      go_wp2_with fail
      refine (pick_any R (m + 50 + 1) 4 w4 D4.out.2.1 (by omega) (by omega)).mono ?_
      rintro e w5 ⟨q2, rfl, q20, q21, -, hr, hg⟩
      have D5 := Lib.hid (D4.out.pick hr hg)
      have M5 := Lib.hid (ints_apart hRw M4.out hg)
      clear hr hg D4 M4 q21
      by_cases e1 : q2 = 0
      · go_wp2_with fail
        refine (HPS.out w5 (sl_of_own_at enc3_len D5.out.2.2.2.1 HL.out)).mono ?_
        rintro e w6 ⟨u6, rfl, hown6, hb6⟩
        have hw5 := D5.out.size
        have D6 := Lib.hid (D5.out.below hb6)
        have M6 := Lib.hid (hown6.base_le hw5)
        clear hown6 hb6
        go_wp2_with fail
        (try simp only [Exit.inBlock, Exit.then])
        refine bodyPost_ret (results_tmp5 rfl _ _ _) rfl ?_
        exact HRES.out _ _ ps _ (by omega) D6.out hpl M6.out
      · by_cases e2 : 0 < bl
        · go_wp2_with fail
          refine (pick_any R (m + 50 + 1 + 1) 4 w5 D5.out.2.1 (by omega) (by omega)).mono ?_
          rintro e w6 ⟨q3, rfl, q30, q31, -, hr, hg⟩
          have D6 := Lib.hid (D5.out.pick hr hg)
          have M6 := Lib.hid (ints_apart hRw M5.out hg)
          clear hr hg D5 M5 q31
          by_cases e3 : q3 = 0
          · obtain ⟨g, rfl, -, hg0, hg1, -⟩ := M6.out.form (by rw [HBS.out]; exact e2)
            have k1 : (1 : Int) ≤ (bl : Int) := by omega
            have k2 : (1 : Int) ≤ (c4 : Int) := by omega
            have k3 : (bl : Int) ≤ (c4 : Int) := by omega
            have hw6 := D6.out.size
            have E7 := Lib.hid (own_new (enc := encI) (k := 1) w6 3 w6.heap.size (Nat.le_refl _) encI_len [] #[] rfl (by simp) rfl)
            have S7 := Lib.hid (SlE.drop (j := 1) (sl_of_own_at encI_len (M6.out.alloc (.cells #[] 3)) HBS.out) (by omega) (A' := some ⟨g, 1, none⟩) (fun b off hA hj => by injection hA with hA; injection hA with h1 h2 h3; subst h1 h2; rfl))
            have S7' : Hid (bl = 1 → SlE 1 encI (w6.alloc (.cells #[] 3)) (some ⟨g, 0, none⟩) (bl - 1) (bs.drop 1)) := fun h => ⟨by rw [List.length_drop, HBS.out], fun h2 => by omega⟩
            by_cases hc1 : c4 = 1
            · have hn1 : bl = 1 := by omega
              have S8 := Lib.hid (S7'.out hn1)
              clear hn1
              go_wp2_with (at_builtin; refine wpList_cat (bytes := 8) (base := w6.heap.size) encI_len encI_one (by omega) rfl _ _ _ rfl Try.underlying35 info_int rfl _ [] rfl E7.out rfl S8.out (by simp; omega) (by simp [maxLen]; omega) (by simp) ?_; intro v' w' hown' hg'; have O8 := Lib.hid hown'; have B8 := Lib.hid (below_grown (below_alloc (Below.refl w6.heap.size w6) (.cells #[] 3)) hg' E7.out (Nat.le_refl _)); clear hown' hg')
              (try simp only [Exit.inBlock, Exit.then])
              refine bodyPost_ret (results_tmp5 rfl _ _ _) rfl ?_
              exact HRES.out _ _ _ _ (by omega) (D6.out.below B8.out) (by simp; have := HBS.out; omega) (O8.out.base_le hw6)
            · have S8 := Lib.hid S7.out
              go_wp2_with (at_builtin; refine wpList_cat (bytes := 8) (base := w6.heap.size) encI_len encI_one (by omega) rfl _ _ _ rfl Try.underlying35 info_int rfl _ [] rfl E7.out rfl S8.out (by simp; omega) (by simp [maxLen]; omega) (by simp) ?_; intro v' w' hown' hg'; have O8 := Lib.hid hown'; have B8 := Lib.hid (below_grown (below_alloc (Below.refl w6.heap.size w6) (.cells #[] 3)) hg' E7.out (Nat.le_refl _)); clear hown' hg')
              (try simp only [Exit.inBlock, Exit.then])
              refine bodyPost_ret (results_tmp5 rfl _ _ _) rfl ?_
              exact HRES.out _ _ _ _ (by omega) (D6.out.below B8.out) (by simp; have := HBS.out; omega) (O8.out.base_le hw6)
          · go_wp2_with fail
            (try simp only [Exit.inBlock, Exit.then])
            refine bodyPost_ret (results_tmp5 rfl _ _ _) rfl ?_
            exact HRES.out _ _ bs _ (by omega) D6.out (by rw [HBS.out]; omega) M6.out
        · go_wp2_with fail
          (try simp only [Exit.inBlock, Exit.then])
          refine bodyPost_ret (results_tmp5 rfl _ _ _) rfl ?_
          exact HRES.out _ _ bs _ (by omega) D5.out (by rw [HBS.out]; omega) M5.out
    · go_wp2_with fail
      refine (pick_any R (m + 50 + 1) 4 w3 D3.out.2.1 (by omega) (by omega)).mono ?_
      rintro e w5 ⟨q2, rfl, q20, q21, -, hr, hg⟩
      have D5 := Lib.hid (D3.out.pick hr hg)
      have M5 := Lib.hid (ints_apart hRw M3.out hg)
      clear hr hg D3 M3 q21
      by_cases e1 : q2 = 0
      · go_wp2_with fail
        refine (HPS.out w5 (sl_of_own_at enc3_len D5.out.2.2.2.1 HL.out)).mono ?_
        rintro e w6 ⟨u6, rfl, hown6, hb6⟩
        have hw5 := D5.out.size
        have D6 := Lib.hid (D5.out.below hb6)
        have M6 := Lib.hid (hown6.base_le hw5)
        clear hown6 hb6
        go_wp2_with fail
        (try simp only [Exit.inBlock, Exit.then])
        refine bodyPost_ret (results_tmp5 rfl _ _ _) rfl ?_
        exact HRES.out _ _ ps _ (by omega) D6.out hpl M6.out
      · by_cases e2 : 0 < ml
        · go_wp2_with fail
          refine (pick_any R (m + 50 + 1 + 1) 4 w5 D5.out.2.1 (by omega) (by omega)).mono ?_
          rintro e w6 ⟨q3, rfl, q30, q31, -, hr, hg⟩
          have D6 := Lib.hid (D5.out.pick hr hg)
          have M6 := Lib.hid (ints_apart hRw M5.out hg)
          clear hr hg D5 M5 q31
          by_cases e3 : q3 = 0
          · obtain ⟨g, rfl, -, hg0, hg1, -⟩ := M6.out.form (by rw [HMS.out]; exact e2)
            have k1 : (1 : Int) ≤ (ml : Int) := by omega
            have k2 : (1 : Int) ≤ (c2 : Int) := by omega
            have k3 : (ml : Int) ≤ (c2 : Int) := by omega
            have hw6 := D6.out.size
            have E7 := Lib.hid (own_new (enc := encI) (k := 1) w6 3 w6.heap.size (Nat.le_refl _) encI_len [] #[] rfl (by simp) rfl)
            have S7 := Lib.hid (SlE.drop (j := 1) (sl_of_own_at encI_len (M6.out.alloc (.cells #[] 3)) HMS.out) (by omega) (A' := some ⟨g, 1, none⟩) (fun b off hA hj => by injection hA with hA; injection hA with h1 h2 h3; subst h1 h2; rfl))
            have S7' : Hid (ml = 1 → SlE 1 encI (w6.alloc (.cells #[] 3)) (some ⟨g, 0, none⟩) (ml - 1) (ms.drop 1)) := fun h => ⟨by rw [List.length_drop, HMS.out], fun h2 => by omega⟩
            by_cases hc1 : c2 = 1
            · have hn1 : ml = 1 := by omega
              have S8 := Lib.hid (S7'.out hn1)
              clear hn1
              go_wp2_with (at_builtin; refine wpList_cat (bytes := 8) (base := w6.heap.size) encI_len encI_one (by omega) rfl _ _ _ rfl Try.underlying35 info_int rfl _ [] rfl E7.out rfl S8.out (by simp; omega) (by simp [maxLen]; omega) (by simp) ?_; intro v' w' hown' hg'; have O8 := Lib.hid hown'; have B8 := Lib.hid (below_grown (below_alloc (Below.refl w6.heap.size w6) (.cells #[] 3)) hg' E7.out (Nat.le_refl _)); clear hown' hg')
              (try simp only [Exit.inBlock, Exit.then])
              refine bodyPost_ret (results_tmp5 rfl _ _ _) rfl ?_
              exact HRES.out _ _ _ _ (by omega) (D6.out.below B8.out) (by simp; have := HMS.out; omega) (O8.out.base_le hw6)
            · have S8 := Lib.hid S7.out
              go_wp2_with (at_builtin; refine wpList_cat (bytes := 8) (base := w6.heap.size) encI_len encI_one (by omega) rfl _ _ _ rfl Try.underlying35 info_int rfl _ [] rfl E7.out rfl S8.out (by simp; omega) (by simp [maxLen]; omega) (by simp) ?_; intro v' w' hown' hg'; have O8 := Lib.hid hown'; have B8 := Lib.hid (below_grown (below_alloc (Below.refl w6.heap.size w6) (.cells #[] 3)) hg' E7.out (Nat.le_refl _)); clear hown' hg')
              (try simp only [Exit.inBlock, Exit.then])
              refine bodyPost_ret (results_tmp5 rfl _ _ _) rfl ?_
              exact HRES.out _ _ _ _ (by omega) (D6.out.below B8.out) (by simp; have := HMS.out; omega) (O8.out.base_le hw6)
          · go_wp2_with fail
            (try simp only [Exit.inBlock, Exit.then])
            refine bodyPost_ret (results_tmp5 rfl _ _ _) rfl ?_
            exact HRES.out _ _ ms _ (by omega) D6.out (by rw [HMS.out]; omega) M6.out
        · go_wp2_with fail
          (try simp only [Exit.inBlock, Exit.then])
          refine bodyPost_ret (results_tmp5 rfl _ _ _) rfl ?_
          exact HRES.out _ _ ms _ (by omega) D5.out (by rw [HMS.out]; omega) M5.out
  · have HN := Lib.hid hok
    clear hok
    go_wp2_with fail
    refine (specTollMust_any A len c xs free x y [] false w1 (sl_of_own_at enc3_len D1.out.2.2.2.1 HL.out) (by omega) (.inr ⟨rfl, HN.out, rfl⟩)).mono ?_
    rintro e w2 ⟨u, rfl, hown2, hb2⟩
    have D2 := Lib.hid (D1.out.below hb2)
    have hz1 := D1.out.size
    obtain ⟨A2, c2, rfl, -, -⟩ := hown2.slc encI_len (n := 0) rfl
    have M2 := Lib.hid (hown2.base_le hz1)
    clear hown2 hb2 D1
    go_wp2_with fail
    (try simp only [Exit.inBlock, Exit.then])
    refine bodyPost_ret (results_tmp5 rfl _ _ _) rfl ?_
    exact ⟨_, xs, free, x, y, _, [], rfl, by rw [HL.out]; exact hl, HF.out.1, HF.out.2.1, HF.out.2.2, by simp, ⟨D2.out.1, D2.out.2.1.mono (by omega), D2.out.2.2⟩, M2.out⟩

/-- Gates, free miles, a way and a list have been drawn. -/
def DrewP (w : World) (e : Ending) (w' : World) : Prop :=
  ∃ v xs free x y u ys, e = .returned (.tuple #[v, .int .i64 free, .int .i64 x, .int .i64 y, u]) ∧ xs.length ≤ 8 ∧ (-2000 ≤ free ∧ free ≤ 2000) ∧ (-2000 ≤ x ∧ x ≤ 2000) ∧ (-2000 ≤ y ∧ y ≤ 2000) ∧ ys.length ≤ 10 ∧ OwnE 3 enc3 31 w.heap.size w' v xs ∧ OwnE 1 encI 3 w.heap.size w' u ys ∧ Below w.heap.size w w'

set_option maxRecDepth 20000 in
set_option maxHeartbeats 1600000 in
theorem drawTollValid_any (A : Option Addr) (n c : Nat) (bs : List Int) (w : World) (h : SlE 1 encU w A n bs) (hb : Bytes bs) (hn : n ≤ 1048576) (hc : n ≤ c) :
    Calls Try.prog 23 #[.slice A n c] w (DrewP w) := by
  have H := Lib.hid h
  have HB := Lib.hid hb
  clear h hb
  go_enter Try.func23, Try.ntmps23
  go_wp2_with fail
  refine (l6Open_any A n c bs w H.out HB.out hn hc).mono ?_
  rintro e w1 ⟨rfl, hr, hb1, hs1⟩
  have HR := Lib.hid hr
  have HB1 := Lib.hid hb1
  clear hr hb1 H HB
  go_wp2_with fail
  refine (l93Paid_any w.heap.size 0 w1 HR.out (by omega)).mono ?_
  rintro e w2 ⟨v, xs, free, x, y, u, ys, rfl, hl, hf, hx, hy, hyl, hd, ho⟩
  have D2 := Lib.hid hd
  have M2 := Lib.hid ho
  clear hd HR ho
  go_wp2_with fail
  (try simp only [Exit.inBlock, Exit.then])
  refine bodyPost_ret (results_tmp5 rfl _ _ _) rfl ?_
  exact ⟨v, xs, free, x, y, u, ys, rfl, hl, hf, hx, hy, hyl, D2.out.2.2.2.1.base_le (by omega), M2.out.base_le (by omega), below_rd HB1.out D2.out.2.2.1⟩

set_option maxRecDepth 20000 in
set_option maxHeartbeats 1600000 in
theorem drawTollSum_any (A : Option Addr) (n c : Nat) (bs : List Int) (w : World) (h : SlE 1 encU w A n bs) (hb : Bytes bs) (hn : n ≤ 1048576) (hc : n ≤ c) :
    Calls Try.prog 43 #[.slice A n c] w (DrewP w) := by
  have H := Lib.hid h
  have HB := Lib.hid hb
  clear h hb
  go_enter Try.func43, Try.ntmps43
  go_wp2_with fail
  refine (l6Open_any A n c bs w H.out HB.out hn hc).mono ?_
  rintro e w1 ⟨rfl, hr, hb1, hs1⟩
  have HR := Lib.hid hr
  have HB1 := Lib.hid hb1
  clear hr hb1 H HB
  go_wp2_with fail
  refine (l93Paid_any w.heap.size 0 w1 HR.out (by omega)).mono ?_
  rintro e w2 ⟨v, xs, free, x, y, u, ys, rfl, hl, hf, hx, hy, hyl, hd, ho⟩
  have D2 := Lib.hid hd
  have M2 := Lib.hid ho
  clear hd HR ho
  go_wp2_with fail
  (try simp only [Exit.inBlock, Exit.then])
  refine bodyPost_ret (results_tmp5 rfl _ _ _) rfl ?_
  exact ⟨v, xs, free, x, y, u, ys, rfl, hl, hf, hx, hy, hyl, D2.out.2.2.2.1.base_le (by omega), M2.out.base_le (by omega), below_rd HB1.out D2.out.2.2.1⟩
end Go.Proofs.Ytngbpdijempkpaa
