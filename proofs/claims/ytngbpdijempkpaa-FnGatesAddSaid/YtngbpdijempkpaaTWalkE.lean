/- Contracts: cheapest. -/
import Derived.Test.YtngbpdijempkpaaTWalkD
import Derived.RegionTactic
import Derived.ChangeAlike
set_option linter.unusedVariables false
namespace Go.Proofs.Ytngbpdijempkpaa
open Go.RowKit

theorem least1_bd {g : Int → T3} {free : Int} : ∀ (ps : List Int) (c : Int), (∀ i ∈ ps, 1 ≤ (g i).c ∧ (g i).c ≤ 99) → (0 : Int) ≤ least1 g free ps c ∧ least1 g free ps c ≤ 99 * ps.length
  | [], _, _ => by simp [least1]
  | i :: ps, c, h => by
    have hi := h i (List.mem_cons_self ..)
    have h1 := least1_bd (free := free) ps ((g i).a + free) fun j hj => h j (List.mem_cons_of_mem _ hj)
    have h2 := least1_bd (free := free) ps c fun j hj => h j (List.mem_cons_of_mem _ hj)
    simp only [least1, List.length_cons]
    split <;> omega
theorem pathS_bd {g : Int → T3} {free : Int} (ps : List Int) (h : ∀ i ∈ ps, 1 ≤ (g i).c ∧ (g i).c ≤ 99) : (0 : Int) ≤ pathS g free ps ∧ pathS g free ps ≤ 99 * ps.length := by
  cases ps with
  | nil => simp [pathS]
  | cons i ps =>
    have hi := h i (List.mem_cons_self ..)
    have h1 := least1_bd (free := free) ps ((g i).a + free) fun j hj => h j (List.mem_cons_of_mem _ hj)
    simp only [pathS, List.length_cons]
    omega
theorem made1' (n : Nat) : (madeCells #[.int .i64 0] n).toList = (List.replicate n (0 : Int)).flatMap encI := by
  apply List.ext_getElem?
  intro j
  by_cases hj : j < n
  · have h3 := flat_at encI_len (List.replicate n (0 : Int)) j 0 (by rw [List.getElem?_replicate, if_pos hj]) 0 (.int .i64 0) rfl
    rw [Nat.mul_one, Nat.add_zero] at h3
    rw [h3]
    have h4 : (madeCells #[.int .i64 0] n)[j]? = some (.int .i64 0) := by simp [madeCells, hj, Nat.mod_one]
    simpa using h4
  · have h1 : (madeCells #[.int .i64 0] n).toList.length = n := by simp [madeCells]
    rw [List.getElem?_eq_none (by rw [h1]; omega), List.getElem?_eq_none (by rw [flat_len encI_len, List.length_replicate]; omega)]
/-- The two tables from place j0 on. -/
def Tab (g : Int → T3) (free : Int) (h sl nl : List Int) (j0 : Nat) : Prop :=
  sl.length = h.length + 1 ∧ nl.length = h.length + 1 ∧ (∀ j, j0 ≤ j → j ≤ h.length → sl[j]? = some (pathS g free (h.drop j))) ∧
    ∀ j q, j0 ≤ j → h[j]? = some q → ∃ nx : Nat, nl[j]? = some (nx : Int) ∧ j < nx ∧ nx ≤ h.length ∧ path g free (h.drop j) = q :: path g free (h.drop nx)
theorem tab_start {g : Int → T3} {free : Int} {h : List Int} {n : Nat} (hn : h.length = n) : Tab g free h (List.replicate (n + 1) 0) (List.replicate (n + 1) 0) n := by
  subst hn
  refine ⟨by simp, by simp, fun j a b => ?_, fun j q a hq => ?_⟩
  · have e : j = h.length := by omega
    subst e
    rw [List.drop_length, List.getElem?_replicate, if_pos (by omega)]
    rfl
  · have := (List.getElem?_eq_some_iff.1 hq).1
    omega
theorem tab_next {g : Int → T3} {free : Int} {h sl nl : List Int} {i J nx : Nat} {q : Int} (t : Tab g free h sl nl (i + 1)) (hq : h[i]? = some q) (s : Seek g free h ((g q).a + free) (i + 1) J nx) (he : ∀ k, h[J]? = some k → ¬ (g k).a ≤ (g q).a + free) :
    Tab g free h (sl.set i ((g q).c + pathS g free (h.drop nx))) (nl.set i nx) i := by
  obtain ⟨h1, h2, h3, h4⟩ := t
  have hi := List.getElem?_eq_some_iff.1 hq
  have hlt := hi.1
  have e1 : pathS g free (h.drop i) = (g q).c + pathS g free (h.drop nx) := by
    rw [List.drop_eq_getElem_cons hi.1, hi.2, ← seek_end s he]
    rfl
  have e2 : path g free (h.drop i) = q :: path g free (h.drop nx) := by
    rw [List.drop_eq_getElem_cons hi.1, hi.2, ← seek_best s he]
    rfl
  refine ⟨by rw [List.length_set]; exact h1, by rw [List.length_set]; exact h2, fun j a b => ?_, fun j p a hp => ?_⟩
  · by_cases ej : j = i
    · subst ej
      rw [List.getElem?_set_self (by omega), e1]
    · rw [List.getElem?_set_ne (by omega)]
      exact h3 j (by omega) b
  · by_cases ej : j = i
    · subst ej
      rw [hq] at hp
      injection hp with hp
      subst hp
      exact ⟨nx, List.getElem?_set_self (by omega), by have := s.1; omega, Nat.le_trans s.2.1 s.2.2.1, e2⟩
    · rw [List.getElem?_set_ne (by omega)]
      exact h4 j p (by omega) hp
/-- The block of a gate that the call keeps. -/
def BoxAt (w : World) (G : Nat) (p : T3) : Prop := OwnE 3 enc3 31 G w (.slice (some ⟨G, 0, none⟩) 1 1) [p]
theorem boxAt_new (w : World) (x y z : Int) : BoxAt (w.alloc (.cells #[.int .i64 x, .int .i64 y, .int .i64 z] 31)) w.heap.size ⟨x, y, z⟩ :=
  own_new (enc := enc3) (k := 3) w 31 w.heap.size (Nat.le_refl _) enc3_len [⟨x, y, z⟩] _ rfl (by simp [maxLen]) rfl
theorem BoxAt.lt {w : World} {G : Nat} {p : T3} (h : BoxAt w G p) : G < w.heap.size := (OwnE.lt h G rfl).2
theorem BoxAt.cells {w : World} {G : Nat} {x y z : Int} (h : BoxAt w G ⟨x, y, z⟩) : w.cell? ⟨G, 0, none⟩ = some (.int .i64 x) ∧ w.cell? ⟨G, 1, none⟩ = some (.int .i64 y) ∧ w.cell? ⟨G, 2, none⟩ = some (.int .i64 z) := by
  obtain ⟨a, b, c⟩ := OwnE.cell3 h (j := 0) (x := x) (y := y) (z := z) rfl
  exact ⟨by simpa using a, by simpa using b, by simpa using c⟩
theorem BoxAt.below {w w' : World} {G B : Nat} {p : T3} (h : BoxAt w G p) (hb : Below B w w') (hB : w.heap.size ≤ B) : BoxAt w' G p := OwnE.below h hb hB
theorem BoxAt.apart {w w' : World} {G : Nat} {p : T3} {row : Option Nat} (h : BoxAt w G p) (hg : w.grownBy w' row) (hne : row ≠ some G) : BoxAt w' G p := OwnE.apart h hg (.inr fun e => hne e.symm)
/-- A slice of n ints that the call keeps in block S. -/
def RowAt (base : Nat) (w : World) (S n : Nat) (xs : List Int) : Prop := OwnE 1 encI 3 base w (.slice (some ⟨S, 0, none⟩) n n) xs ∧ xs.length = n
theorem RowAt.set_ {base : Nat} {w : World} {S n : Nat} {xs : List Int} (h : RowAt base w S n xs) (j : Nat) (x : Int) : RowAt base (w.setCell ⟨S, j, none⟩ (.int .i64 x)) S n (xs.set j x) ∧ w.grownBy (w.setCell ⟨S, j, none⟩ (.int .i64 x)) (some S) :=
  ⟨⟨(own1_set h.1 h.2 j x).1, by rw [List.length_set]; exact h.2⟩, (own1_set h.1 h.2 j x).2⟩
theorem RowAt.below {base B : Nat} {w w' : World} {S n : Nat} {xs : List Int} (h : RowAt base w S n xs) (hb : Below B w w') (hB : w.heap.size ≤ B) : RowAt base w' S n xs := ⟨h.1.below hb hB, h.2⟩
theorem RowAt.apart {base : Nat} {w w' : World} {S n : Nat} {xs : List Int} {row : Option Nat} (h : RowAt base w S n xs) (hg : w.grownBy w' row) (hne : row ≠ some S) : RowAt base w' S n xs := ⟨OwnE.apart h.1 hg (.inr fun e => hne e.symm), h.2⟩
theorem RowAt.lt {base : Nat} {w : World} {S n : Nat} {xs : List Int} (h : RowAt base w S n xs) : base ≤ S ∧ S < w.heap.size := OwnE.lt h.1 S rfl
theorem drop_at {α : Type} {xs : List α} {k : Nat} {p : α} (h : xs[k]? = some p) : xs.drop k = p :: xs.drop (k + 1) := by
  have hk := List.getElem?_eq_some_iff.1 h
  rw [List.drop_eq_getElem_cons hk.1, hk.2]

/-- The tables lie in the two first blocks of the call. -/
def Tabs (g : Int → T3) (free : Int) (h : List Int) (n : Nat) (w wr : World) (j0 : Nat) : Prop :=
  ∃ sl nl, RowAt w.heap.size wr w.heap.size n sl ∧ RowAt w.heap.size wr (w.heap.size + 1) n nl ∧ Tab g free h sl nl j0 ∧ Below w.heap.size w wr
/-- Where the outer loop stands: at place i, the tables being right behind it. -/
def Down (g : Int → T3) (free : Int) (h : List Int) (m : Nat) (w wr : World) (v : Value) : Prop :=
  (∃ i : Nat, i < m ∧ v = .int .i64 i ∧ Tabs g free h (m + 1) w wr (i + 1)) ∨ (v = .int .i64 (-1) ∧ Tabs g free h (m + 1) w wr 0)
theorem down_at {g : Int → T3} {free : Int} {h : List Int} {m : Nat} {w wr : World} {k : Nat} (hk : k ≤ m) (t : Tabs g free h (m + 1) w wr k) : Down g free h m w wr (.int .i64 ((k : Int) - 1)) := by
  rcases k with _ | k
  · exact .inr ⟨by simp, t⟩
  · exact .inl ⟨k, by omega, by congr 1; omega, t⟩

set_option maxRecDepth 100000 in
set_option maxHeartbeats 6400000 in
theorem cheapest_any (A B : Option Addr) (len cap m c : Nat) (xs : List T3) (free : Int) (h : List Int) (w : World) (hA : SlE 3 enc3 w A len xs) (hB : SlE 1 encI w B m h) (hn : len ≤ 1048576) (hm : m ≤ 1048576) (hG : GatesOk xs) (hI : IdxOf len h) (hf : 0 ≤ free ∧ free ≤ 999) :
    Calls Try.prog 73 #[.slice A len cap, .int .i64 free, .slice B m c] w (RetOwn 1 encI 3 (path (gAt xs) free h) w) := by
  have H := Lib.hid hA
  have H' := Lib.hid hB
  have HL := Lib.hid hB.len
  have HXL := Lib.hid hA.len
  have HG := Lib.hid hG
  have HI := Lib.hid hI
  obtain ⟨hf0, hf1⟩ := hf
  have hmk := fun W => run_make_rowN (P := Try.prog) 35 3 (.int .i64 0) 1 8 Try.underlying35 info_int .i64 .i64 (m + 1) (by omega) (by omega) W
  have e1 : ((m + 1 : Nat) : Int) = (m : Int) + 1 := by omega
  simp only [e1] at hmk
  have x1 : IntKind.i64.wrap ((m : Int) + 1) = (m : Int) + 1 := IntWalk.i64_in _ (by omega)
  have hval : ∀ q ∈ h, ∃ x y z : Int, gAt xs q = ⟨x, y, z⟩ ∧ 0 ≤ x ∧ x ≤ 999 ∧ 1 ≤ z ∧ z ≤ 99 := fun q hq => by
    obtain ⟨h0, h1⟩ := hI q hq
    obtain ⟨j, rfl⟩ : ∃ n : Nat, q = n := ⟨q.toNat, by omega⟩
    have hj : j < xs.length := by rw [hA.len]; omega
    have e := List.getElem?_eq_getElem hj
    have hg := hG.2 j _ e
    unfold GOk at hg
    rw [gAt_at e]
    exact ⟨xs[j].a, xs[j].b, xs[j].c, rfl, by omega, by omega, by omega, by omega⟩
  have hSB : ∀ k, (0 : Int) ≤ pathS (gAt xs) free (h.drop k) ∧ pathS (gAt xs) free (h.drop k) ≤ 99 * 1048576 := fun k => by
    have := pathS_bd (g := gAt xs) (free := free) (h.drop k) (fun i hi => by
      obtain ⟨x, y, z, e, _, _, h1, h2⟩ := hval i (List.mem_of_mem_drop hi)
      rw [e]; exact ⟨h1, h2⟩)
    have h2 : (h.drop k).length ≤ 1048576 := by rw [List.length_drop, hB.len]; omega
    omega
  have HSB := Lib.hid hSB
  clear hA hB hG hI e1 hval hSB
  go_enter Try.func73, Try.ntmps73
  go_wp2_with fail
  go_loopw [10, 11, 12] (fun i _ _ wr => Down (gAt xs) free h m w wr i) (fun i _ _ _ => (intOf i + 1).toNat)
  case atStart =>
    refine down_at (Nat.le_refl _) ⟨List.replicate (m + 1) 0, List.replicate (m + 1) 0, ?_, ?_, tab_start HL.out, below_alloc (below_alloc (Below.refl _ w) _) _⟩
    · exact ⟨(own_new (enc := encI) (k := 1) w 3 w.heap.size (Nat.le_refl _) encI_len _ _ (made1' _) (by simp [maxLen]; omega) (by simp)).alloc _, by simp⟩
    · exact ⟨own_new' (enc := encI) (k := 1) (w.alloc _) 3 w.heap.size (by simp) encI_len _ _ (made1' _) (by simp [maxLen]; omega) (by simp) (by simp), by simp⟩
  case round =>
    clear hmk
    rcases hrel with ⟨i, him, rfl, sl, nl, hs, hnx, htab, hbr⟩ | ⟨rfl, sl, nl, hs, hnx, htab, hbr⟩
    · have HS := Lib.hid hs
      have HN := Lib.hid hnx
      have HT := Lib.hid htab
      have HR := Lib.hid hbr
      have hzN := hnx.lt.2
      obtain ⟨bp, op, q, rfl, hbp, hq, hdd, p0⟩ := at1 H'.out HR.out him
      obtain ⟨hq0, hq1⟩ := HI.out q (mem_at hq)
      obtain ⟨jq, rfl⟩ : ∃ n : Nat, q = n := ⟨q.toNat, by omega⟩
      have hjl : jq < len := by omega
      obtain ⟨bg, og, x, y, z, rfl, hbg, hx1, hdd3, g0, g1, g2⟩ := at3 H.out HR.out hjl
      have hgq := HG.out.2 jq _ hx1
      unfold GOk at hgq
      simp only at hgq
      obtain ⟨hxa, hxb, hza, hzb⟩ : 0 ≤ x ∧ x ≤ 999 ∧ 1 ≤ z ∧ z ≤ 99 := ⟨by omega, by omega, by omega, by omega⟩
      have HX := Lib.hid (gAt_at hx1)
      have HQ := Lib.hid hq
      obtain ⟨v0, hv0⟩ : ∃ v, nl[i]? = some v := ⟨_, List.getElem?_eq_getElem (by rw [hnx.2]; omega)⟩
      have c0 := hnx.1.cell1 hv0
      have f0 := hnx.1.frozen
      have x2 : IntKind.i64.wrap ((i : Int) + 1) = (i : Int) + 1 := IntWalk.i64_in _ (by omega)
      have i0 : (0 : Int) ≤ (i : Int) := by omega
      have i1 : (i : Int) < (m : Int) + 1 := by omega
      clear hs hnx htab hbr hq hdd hdd3 hx1 hgq hv0
      go_wp2_with fail
      have HGS : Hid (RowAt w.heap.size ((wr.setCell ⟨w.heap.size + 1, i, none⟩ (.int .i64 ((i : Int) + 1))).alloc (.cells #[.int .i64 x, .int .i64 y, .int .i64 z] 31)) w.heap.size (m + 1) sl) := ⟨(HS.out.apart (HN.out.set_ i ((i : Int) + 1)).2 (by simp)).1.alloc _, HS.out.2⟩
      have HGN : Hid (RowAt w.heap.size ((wr.setCell ⟨w.heap.size + 1, i, none⟩ (.int .i64 ((i : Int) + 1))).alloc (.cells #[.int .i64 x, .int .i64 y, .int .i64 z] 31)) (w.heap.size + 1) (m + 1) (nl.set i ((i + 1 : Nat) : Int))) := ⟨(HN.out.set_ i ((i : Int) + 1)).1.1.alloc _, by rw [List.length_set]; exact HN.out.2⟩
      have HGB : Hid (BoxAt ((wr.setCell ⟨w.heap.size + 1, i, none⟩ (.int .i64 ((i : Int) + 1))).alloc (.cells #[.int .i64 x, .int .i64 y, .int .i64 z] 31)) wr.heap.size ⟨x, y, z⟩) := by
        have := boxAt_new (wr.setCell ⟨w.heap.size + 1, i, none⟩ (.int .i64 ((i : Int) + 1))) x y z
        show BoxAt _ _ _
        simpa using this
      have HGR : Hid (Below w.heap.size w ((wr.setCell ⟨w.heap.size + 1, i, none⟩ (.int .i64 ((i : Int) + 1))).alloc (.cells #[.int .i64 x, .int .i64 y, .int .i64 z] 31))) := below_alloc (HR.out.setCell (by simp) _) _
      generalize wr.heap.size = G at *
      go_loopw [12] (fun j wz => ∃ J nx : Nat, j = .int .i64 J ∧ Seek (gAt xs) free h (x + free) (i + 1) J nx ∧ RowAt w.heap.size wz w.heap.size (m + 1) sl ∧ RowAt w.heap.size wz (w.heap.size + 1) (m + 1) (nl.set i (nx : Int)) ∧ BoxAt wz G ⟨x, y, z⟩ ∧ Below w.heap.size w wz) (fun j _ => m - (intOf j).toNat)
      case atStart => exact ⟨i + 1, i + 1, by go_num, seek_start (by have := HL.out; omega), HGS.out, HGN.out, HGB.out, HGR.out⟩
      case round =>
        obtain ⟨J, nx, rfl, hseek, hs, hnx, hbox, hbz⟩ := hrel
        have HK := Lib.hid hseek
        have HSz := Lib.hid hs
        have HNz := Lib.hid hnx
        have HBz := Lib.hid hbox
        have HZ := Lib.hid hbz
        obtain ⟨b0, b1, b2⟩ := hbox.cells
        have hJ0 : i + 1 ≤ nx := hseek.1
        have hJ1 : nx ≤ J := hseek.2.1
        have hJ2 : J ≤ m := by have := hseek.2.2.1; rw [HL.out] at this; exact this
        have j0 : (0 : Int) ≤ (J : Int) := by omega
        have x3 : IntKind.i64.wrap (x + free) = x + free := IntWalk.i64_in _ (by omega)
        clear hseek hs hnx hbox hbz
        have hnot : ∀ J' : Nat, J' = J → ¬ (∃ p, h[J']? = some p ∧ (gAt xs p).a ≤ x + free) → ∀ p, h[J]? = some p → ¬ (gAt xs p).a ≤ x + free := fun J' e hh p hp hle => hh ⟨p, by rw [e]; exact hp, hle⟩
        have HNOT := Lib.hid hnot
        clear hnot
        by_cases hgo : ∃ p, h[J]? = some p ∧ (gAt xs p).a ≤ x + free
        · obtain ⟨p, hp, hpa⟩ := hgo
          have hJm : J < m := by have := (List.getElem?_eq_some_iff.1 hp).1; rw [HL.out] at this; exact this
          obtain ⟨bp', op', p', hA', hbp', hp', hdd', pJ⟩ := at1 H'.out HZ.out hJm
          injection hA' with hA'
          injection hA' with e1 e2
          subst e1 e2
          rw [hp] at hp'
          injection hp' with hp'
          subst hp'
          obtain ⟨hp0, hp1⟩ := HI.out p (mem_at hp)
          obtain ⟨jp, rfl⟩ : ∃ n : Nat, p = n := ⟨p.toNat, by omega⟩
          have hjp : jp < len := by omega
          obtain ⟨bg', og', xp, yp, zp, hA', hbg', hxp, hdd3, gp0, gp1, gp2⟩ := at3 H.out HZ.out hjp
          injection hA' with hA'
          injection hA' with e1 e2
          subst e1 e2
          have hst := seek_step (g := gAt xs) (free := free) HK.out hp hpa
          rw [gAt_at hxp] at hpa
          simp only at hpa
          have HST := Lib.hid hst
          have k3 : (J : Int) < (m : Int) := by omega
          clear hp hxp hdd' hdd3 hst
          go_wp2_with fail
          go_quiet (fail)
          have HSy : Hid (RowAt w.heap.size (wr.drewN nq) w.heap.size (m + 1) sl) := HSz.out
          have HNy : Hid (RowAt w.heap.size (wr.drewN nq) (w.heap.size + 1) (m + 1) (nl.set i (nx : Int))) := HNz.out
          have HBy : Hid (BoxAt (wr.drewN nq) G ⟨x, y, z⟩) := HBz.out
          have HZy := Lib.hid (below_drewN HZ.out nq)
          clear HSz HNz HBz HZ b0 b1 b2 pJ gp0 gp1 gp2 hbp' hbg'
          generalize wr.drewN nq = wy at *
          clear nq
          have hpJ : sl[J + 1]? = some (pathS (gAt xs) free (h.drop (J + 1))) := HT.out.2.2.1 (J + 1) (by omega) (by rw [HL.out]; omega)
          have hpN : sl[nx]? = some (pathS (gAt xs) free (h.drop nx)) := HT.out.2.2.1 nx (by omega) (by rw [HL.out]; omega)
          have s1 := HSy.out.1.cell1 hpJ
          have s2 := HSy.out.1.cell1 hpN
          have n1 := HNy.out.1.cell1 (j := i) (x := (nx : Int)) (List.getElem?_set_self (by rw [← List.length_set (i := i) (a := (nx : Int)), HNy.out.2]; omega))
          have x4 : IntKind.i64.wrap ((J : Int) + 1) = (J : Int) + 1 := IntWalk.i64_in _ (by omega)
          have x5 : (0 : Int) ≤ (J : Int) + 1 := by omega
          have x6 : (J : Int) + 1 < (m : Int) + 1 := by omega
          have x7 : ((J : Int) + 1).toNat = J + 1 := by omega
          have x8 : (0 : Int) ≤ (nx : Int) := by omega
          have x9 : (nx : Int) < (m : Int) + 1 := by omega
          clear hpJ hpN
          by_cases hlt : pathS (gAt xs) free (h.drop (J + 1)) < pathS (gAt xs) free (h.drop nx)
          · rw [if_pos hlt] at HST
            generalize pathS (gAt xs) free (h.drop (J + 1)) = PJ at *
            generalize pathS (gAt xs) free (h.drop nx) = PN at *
            go_wp2_with fail
            go_quiet (fail)
            have HSv : Hid (RowAt w.heap.size (wy.drewN nq) w.heap.size (m + 1) sl) := HSy.out
            have HNv : Hid (RowAt w.heap.size (wy.drewN nq) (w.heap.size + 1) (m + 1) (nl.set i (nx : Int))) := HNy.out
            have HBv : Hid (BoxAt (wy.drewN nq) G ⟨x, y, z⟩) := HBy.out
            have HZv := Lib.hid (below_drewN HZy.out nq)
            have f1 := HNv.out.1.frozen
            have n2 : (wy.drewN nq).cell? ⟨w.heap.size + 1, i, none⟩ = some (.int .i64 (nx : Int)) := n1
            clear HSy HNy HBy HZy s1 s2 n1
            generalize wy.drewN nq = wv at *
            clear nq
            go_wp2
            go_roundw
            case rel =>
              have hset := HNv.out.set_ i ((J : Int) + 1)
              rw [List.set_set] at hset
              exact ⟨J + 1, J + 1, by go_num, HST.out, HSv.out.apart hset.2 (by simp), hset.1, HBv.out.apart hset.2 (by simp; omega), HZv.out.grown hset.2 HZv.out.size (fun j hj => by injection hj with hj; omega)⟩
            case measure => simp [intOf]; omega
          · rw [if_neg hlt] at HST
            have hd3 : decide (pathS (gAt xs) free (h.drop (J + 1)) < pathS (gAt xs) free (h.drop nx)) = false := by simpa using hlt
            generalize pathS (gAt xs) free (h.drop (J + 1)) = PJ at *
            generalize pathS (gAt xs) free (h.drop nx) = PN at *
            go_wp2_with fail
            go_quiet (fail)
            go_wp2
            go_roundw
            case rel => exact ⟨J + 1, nx, by go_num, HST.out, HSy.out, HNy.out, HBy.out, below_drewN HZy.out _⟩
            case measure => simp [intOf]; omega
        · have HEND := Lib.hid (HNOT.out J rfl hgo)
          clear hgo HNOT
          by_cases hJm : J < m
          case' pos =>
            obtain ⟨bp', op', p', hA', hbp', hp', hdd', pJ⟩ := at1 H'.out HZ.out hJm
            injection hA' with hA'
            injection hA' with e1 e2
            subst e1 e2
            obtain ⟨hp0, hp1⟩ := HI.out p' (mem_at hp')
            obtain ⟨jp, rfl⟩ : ∃ n : Nat, p' = n := ⟨p'.toNat, by omega⟩
            have hjp : jp < len := by omega
            obtain ⟨bg', og', xp, yp, zp, hA', hbg', hxp, hdd3, gp0, gp1, gp2⟩ := at3 H.out HZ.out hjp
            injection hA' with hA'
            injection hA' with e1 e2
            subst e1 e2
            have hpa : ¬ xp ≤ x + free := by have := HEND.out _ hp'; rw [gAt_at hxp] at this; exact this
            have hd3 : decide (xp ≤ x + free) = false := by simpa using hpa
            have k3 : (J : Int) < (m : Int) := by omega
            clear hp' hxp hdd' hdd3
            go_wp2_with fail
            go_quiet (fail)
            clear pJ gp0 gp1 gp2 hbp' hbg' hpa hd3 k3
          case' neg =>
            have hd3 : decide ((J : Int) < (m : Int)) = false := by simp; omega
            go_wp2_with fail
            go_quiet (fail)
            clear hd3
          all_goals
            have HSy : Hid (RowAt w.heap.size (wr.drewN nq) w.heap.size (m + 1) sl) := HSz.out
            have HNy : Hid (RowAt w.heap.size (wr.drewN nq) (w.heap.size + 1) (m + 1) (nl.set i (nx : Int))) := HNz.out
            have HBy : Hid (BoxAt (wr.drewN nq) G ⟨x, y, z⟩) := HBz.out
            have HZy := Lib.hid (below_drewN HZ.out nq)
            clear HSz HNz HBz HZ b0 b1 b2
            generalize wr.drewN nq = wy at *
            clear nq
            have hpN : sl[nx]? = some (pathS (gAt xs) free (h.drop nx)) := HT.out.2.2.1 nx (by omega) (by rw [HL.out]; omega)
            have s2 := HSy.out.1.cell1 hpN
            have n1 := HNy.out.1.cell1 (j := i) (x := (nx : Int)) (List.getElem?_set_self (by rw [← List.length_set (i := i) (a := (nx : Int)), HNy.out.2]; omega))
            obtain ⟨b0, b1, b2⟩ := HBy.out.cells
            obtain ⟨vs, hvs⟩ : ∃ v, sl[i]? = some v := ⟨_, List.getElem?_eq_getElem (by rw [HSy.out.2]; omega)⟩
            have c1 := HSy.out.1.cell1 hvs
            have f1 := HSy.out.1.frozen
            have x8 : (0 : Int) ≤ (nx : Int) := by omega
            have x9 : (nx : Int) < (m : Int) + 1 := by omega
            have hpb := HSB.out nx
            have HTAB := tab_next (J := J) (nx := nx) HT.out HQ.out (by rw [HX.out]; exact HK.out) (by rw [HX.out]; intro k hk; have := HEND.out k hk; show ¬ (gAt xs k).a ≤ x + free; omega)
            rw [HX.out] at HTAB
            simp only at HTAB
            have HTAB := Lib.hid HTAB
            clear hpN hvs
            generalize pathS (gAt xs) free (h.drop nx) = PN at *
            have x10 : IntKind.i64.wrap (z + PN) = z + PN := IntWalk.i64_in _ (by omega)
            go_wp2_with fail
            go_region
            go_wp2
            go_roundw
            case rel =>
              have hset := HSy.out.set_ i (z + PN)
              exact down_at (Nat.le_of_lt him) ⟨_, _, ⟨hset.1.1.drew, hset.1.2⟩, ⟨(HNy.out.apart hset.2 (by simp)).1.drew, HNy.out.2⟩, HTAB.out, (HZy.out.grown hset.2 HZy.out.size (fun j hj => by injection hj with hj; omega)).drew⟩
            case measure => simp [intOf] <;> omega
    · have HS := Lib.hid hs
      have HN := Lib.hid hnx
      have HT := Lib.hid htab
      have HR := Lib.hid hbr
      have hzN := hnx.lt.2
      have hPL : (path (gAt xs) free h).length ≤ m := by
        have : (path (gAt xs) free h).Sublist h := by
          cases h with
          | nil => simp [path]
          | cons a l => exact (best1_sub l _).cons_cons _
        have := this.length_le
        rw [HL.out] at this
        exact this
      have HPL := Lib.hid hPL
      clear hs hnx htab hbr hPL
      go_wp2_with fail
      go_loopw [13, 14] (fun s j wz => ∃ (k : Nat) (acc : List Int), k ≤ m ∧ j = .int .i64 k ∧ OwnE 1 encI 3 w.heap.size wz s acc ∧ acc ++ path (gAt xs) free (h.drop k) = path (gAt xs) free h ∧ RowAt w.heap.size wz (w.heap.size + 1) (m + 1) nl ∧ Sep s (.slice (some ⟨w.heap.size + 1, 0, none⟩) (m + 1) (m + 1)) ∧ Below w.heap.size w wz) (fun _ j _ => m - (intOf j).toNat)
      case atStart => exact ⟨0, [], by omega, rfl, own_new wr _ _ (by omega) encI_len [] #[] rfl (by simp) rfl, by simp, ⟨HN.out.1.alloc _, HN.out.2⟩, .inr (by simp [Value.ownBlock]; omega), below_alloc HR.out _⟩
      case round =>
        obtain ⟨k, acc, hk, rfl, hown, hacc, hnx, hsep, hbz⟩ := hrel
        have HO := Lib.hid hown
        have HAC := Lib.hid hacc
        have HNz := Lib.hid hnx
        have HSz := Lib.hid hsep
        have HZ := Lib.hid hbz
        have hsz := hbz.size
        have hal : acc.length ≤ m := by
          have := congrArg List.length hacc
          rw [List.length_append] at this
          have := HPL.out
          omega
        clear hown hacc hnx hsep hbz
        by_cases hlt : k < m
        · obtain ⟨b, off, q, rfl, hbl, hq, hdd, h0⟩ := at1 H'.out HZ.out hlt
          obtain ⟨nx, hnk, hkn, hnm, hpath⟩ := HT.out.2.2.2 k q (by omega) hq
          rw [HL.out] at hnm
          have HNK := Lib.hid hnk
          have HPA := Lib.hid hpath
          have k0 : (0 : Int) ≤ (k : Int) := by omega
          have k1 : (k : Int) < (m : Int) + 1 := by omega
          clear hq hdd hnk hpath
          go_wp2_with (at_builtin; refine wpList_push_at 1 8 3 encI encI_len encI_one (by omega) q _ _ rfl rfl _ _ _ rfl Try.underlying35 info_int rfl w.heap.size _ acc rfl rfl rfl HO.out (by omega) (by unfold maxLen; omega) hsz ?_; intro v' w' hown' hg' hl'; have HO' := Lib.hid hown'; have HB' := Lib.hid (below_grown HZ.out hg' HO.out (Nat.le_refl _)); have HS' := Lib.hid (sep_next HSz.out hl' (fun j hj => by have := (HNz.out.1.lt j hj).2; omega)); have HN' : Hid (RowAt w.heap.size w' (w.heap.size + 1) (m + 1) nl) := ⟨HNz.out.1.apart hg' HSz.out, HNz.out.2⟩; have n9 := HN'.out.1.cell1 HNK.out; clear hown' hg' hl')
          go_roundw
          case rel => exact ⟨nx, acc ++ [q], hnm, rfl, HO'.out, by rw [← HAC.out, HPA.out, List.append_assoc]; rfl, HN'.out, HS'.out, HB'.out⟩
          case measure => simp [intOf]; omega
        · have e : h.drop k = [] := List.drop_eq_nil_of_le (by rw [HL.out]; omega)
          have HE : Hid (acc = path (gAt xs) free h) := by have h2 := HAC.out; rw [e] at h2; exact (List.append_nil acc).symm.trans h2
          clear e
          go_wp2
          go_ret
          exact ⟨_, rfl, by rw [← HE.out]; exact HO.out, HZ.out⟩
end Go.Proofs.Ytngbpdijempkpaa
