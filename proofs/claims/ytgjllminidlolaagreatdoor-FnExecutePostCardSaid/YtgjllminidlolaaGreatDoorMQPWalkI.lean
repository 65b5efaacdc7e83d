/- Contracts: slices.Clone of a timetable; PostAdd of the program. -/
import Derived.Test.YtgjllminidlolaaGreatDoorMQPWalkC
import Derived.Test.YtgjllminidlolaaGreatDoorMAC
import Derived.Test.YtgjllminidlolaaGreatDoorMAB
set_option linter.unusedVariables false
namespace Go.Proofs.YtgjllminidlolaaGreatDoor
open Go.RowKit

theorem info_stop : (Tryz.prog.info? 103).map (fun i => (i.zero, i.size, i.bytes)) = some (some (.agg #[.int .i64 0, .int .i64 0, .int .i64 0]), 3, 24) := by kernel_rfl
theorem info_tt : (Tryz.prog.info? 50).map (fun i => (i.zero, i.size, i.bytes)) = some (some (.slice none 0 0), 1, 24) := by kernel_rfl
/-- A slice as a value. -/
structure Slv where
  A : Option Addr
  n : Nat
  c : Nat
def Slv.v (s : Slv) : Value := .slice s.A s.n s.c
def encW (s : Slv) : List Value := [s.v]
theorem encW_len (s : Slv) : (encW s).length = 1 := rfl
theorem encW_one (s : Slv) : ∀ u ∈ encW s, u.oneCell' = true := by
  intro u hu
  simp [encW] at hu
  subst hu
  rfl
theorem own_WV {ty base : Nat} {W : World} {v : Value} {ss : List Slv} (h : OwnE 1 encW ty base W v ss) : OwnE 1 encV ty base W v (ss.map Slv.v) := by
  have e : (ss.map Slv.v).flatMap encV = ss.flatMap encW := by
    rw [List.flatMap_map]
    rfl
  unfold OwnE at *
  rw [e, List.length_map]
  exact h
/-- Timetables of a call's own, each one apart from the row that holds them. -/
def NetB (base : Nat) (W : World) (v : Value) (net : List (List T3)) : Prop :=
  ∃ ss : List Slv, OwnE 1 encW 50 base W v ss ∧ ss.length = net.length ∧ ∀ (j : Nat) (s : Slv) xs, ss[j]? = some s → net[j]? = some xs → OwnE 3 enc3 103 base W s.v xs ∧ ∀ i, s.v.ownBlock = some i → v.ownBlock ≠ some i
theorem ne_of_all {u v : Value} (h : ∀ i, u.ownBlock = some i → v.ownBlock ≠ some i) : u.ownBlock = none ∨ u.ownBlock ≠ v.ownBlock := by
  cases hu : u.ownBlock with
  | none => exact .inl rfl
  | some i => exact .inr (fun e => h i hu e.symm)
theorem NetB.below {base : Nat} {W W' : World} {v : Value} {net : List (List T3)} (h : NetB base W v net) (hb : Below W.heap.size W W') : NetB base W' v net := by
  obtain ⟨ss, h1, h2, h3⟩ := h
  exact ⟨ss, h1.below hb (Nat.le_refl _), h2, fun j s xs hs hx => ⟨(h3 j s xs hs hx).1.below hb (Nat.le_refl _), (h3 j s xs hs hx).2⟩⟩
theorem NetB.drew {base : Nat} {W : World} {v : Value} {net : List (List T3)} (h : NetB base W v net) : NetB base W.drew v net := h.below (below_drew (Below.refl _ _))
theorem NetB.nil {base : Nat} {W : World} (hb : base ≤ W.heap.size) : NetB base (W.alloc (.cells #[] 50)) (.slice (some ⟨W.heap.size, 0, none⟩) 0 0) [] :=
  ⟨[], own_new W _ _ hb encW_len [] #[] rfl (by simp) rfl, rfl, fun j s xs hs => by simp at hs⟩
theorem NetB.netS {base : Nat} {W : World} {v : Value} {net : List (List T3)} (h : NetB base W v net) : ∃ A c, v = .slice A net.length c ∧ NetS W A net.length net ∧ net.length ≤ c := by
  obtain ⟨ss, h1, h2, h3⟩ := h
  obtain ⟨A, c, rfl, hs, hc⟩ := (own_WV h1).slc encV_len (n := net.length) (by rw [List.length_map, h2])
  refine ⟨A, c, rfl, ⟨_, hs, by rw [List.length_map, h2], fun j u xs hu hx => ?_⟩, hc⟩
  rw [List.getElem?_map] at hu
  obtain ⟨s, hs', rfl⟩ := Option.map_eq_some_iff.1 hu
  obtain ⟨A', c', hv, hsl, hc'⟩ := (h3 j s xs hs' hx).1.slc enc3_len rfl
  exact ⟨A', _, c', hv, hsl, hc'⟩
/-- One more timetable. -/
theorem NetB.push {base : Nat} {W w' : World} {v v' : Value} {net : List (List T3)} {ss : List Slv} {s : Slv} {xs : List T3} (h1 : OwnE 1 encW 50 base W v ss) (h2 : ss.length = net.length)
    (h3 : ∀ (j : Nat) (s : Slv) xs, ss[j]? = some s → net[j]? = some xs → OwnE 3 enc3 103 base W s.v xs ∧ ∀ i, s.v.ownBlock = some i → v.ownBlock ≠ some i) (hs : OwnE 3 enc3 103 base W s.v xs) (hne : ∀ i, s.v.ownBlock = some i → v.ownBlock ≠ some i)
    (hown : OwnE 1 encW 50 base w' v' (ss ++ [s])) (hg : W.grownBy w' v.ownBlock) (hl : v'.ownBlock = v.ownBlock ∨ v'.ownBlock = some (W.heap.size + 1)) : NetB base w' v' (net ++ [xs]) := by
  have key : ∀ (u : Slv) ys, OwnE 3 enc3 103 base W u.v ys → (∀ i, u.v.ownBlock = some i → v.ownBlock ≠ some i) → OwnE 3 enc3 103 base w' u.v ys ∧ ∀ i, u.v.ownBlock = some i → v'.ownBlock ≠ some i := fun u ys hu hn => by
    refine ⟨OwnE.apart hu hg (ne_of_all hn), fun i hi => ?_⟩
    rcases hl with hl | hl
    · rw [hl]; exact hn i hi
    · rw [hl]
      intro e
      injection e with e
      have := (hu.lt i hi).2
      omega
  refine ⟨ss ++ [s], hown, by rw [List.length_append, List.length_append, h2]; rfl, fun j u ys hu hy => ?_⟩
  by_cases hj : j < ss.length
  · rw [List.getElem?_append_left hj] at hu
    rw [List.getElem?_append_left (by omega)] at hy
    exact key u ys (h3 j u ys hu hy).1 (h3 j u ys hu hy).2
  · have hj2 := (List.getElem?_eq_some_iff.1 hu).1
    rw [List.length_append, List.length_singleton] at hj2
    obtain rfl : j = ss.length := by omega
    rw [List.getElem?_append_right (Nat.le_refl _), Nat.sub_self] at hu
    rw [h2, List.getElem?_append_right (Nat.le_refl _), Nat.sub_self] at hy
    simp only [List.getElem?_cons_zero, Option.some.injEq] at hu hy
    subst hu hy
    exact key _ _ hs hne

theorem nil_stop (A : Option Addr) (len c : Nat) (w : World) : Sem.run Tryz.prog (Go.binOp .eql 50 (.slice A len c) (.slice none 0 0)) w = Result.ok (.bool A.isNone) w := by
  cases A <;> kernel_rfl
/-- A timetable has been copied. -/
def Cloned (xs : List T3) (w : World) (e : Ending) (w' : World) : Prop := ∃ s : Slv, e = .returned s.v ∧ OwnE 3 enc3 103 w.heap.size w' s.v xs ∧ Below w.heap.size w w'
set_option maxRecDepth 20000 in
set_option maxHeartbeats 800000 in
theorem cloneS_any (A : Option Addr) (len c : Nat) (xs : List T3) (w : World) (h : SlE 3 enc3 w A len xs) (hn : len ≤ 16777216) :
    Calls Tryz.prog 208 #[.slice A len c] w (Cloned xs w) := by
  have H := Lib.hid h
  cases A with
  | none =>
    have hx : xs = [] := by
      rcases Nat.eq_zero_or_pos len with h0 | h0
      · exact List.eq_nil_of_length_eq_zero (by rw [h.len]; exact h0)
      · obtain ⟨b, off, hA, _⟩ := h.2 h0
        cases hA
    have HX := Lib.hid hx
    clear h hx
    go_enter Tryz.func208, Tryz.ntmps208
    go_wp2_with fail
    rw [nil_stop]
    go_wp2_with fail
    go_ret
    exact ⟨⟨none, 0, 0⟩, rfl, by rw [HX.out]; exact ⟨by simp, .inl ⟨rfl, rfl⟩⟩, Below.refl _ _⟩
  | some a =>
    have O1 := Lib.hid (own_new (enc := enc3) (k := 3) w 103 w.heap.size (Nat.le_refl _) enc3_len [] #[] rfl (by simp) rfl)
    have HB1 := Lib.hid (below_alloc (Below.refl w.heap.size w) (.cells #[] 103))
    clear h
    go_enter Tryz.func208, Tryz.ntmps208
    go_wp2_with fail
    rw [nil_stop]
    go_wp2_with (at_builtin; refine wpList_cat (bytes := 24) enc3_len enc3_one (by omega) rfl _ _ _ rfl Tryz.underlying50 info_stop rfl _ [] rfl O1.out rfl (H.out.below HB1.out) (by simp; omega) (by simp [maxLen]; omega) HB1.out.size ?_; intro v' w' hown' hg'; have HO' := Lib.hid hown'; have HB' := Lib.hid (below_grown HB1.out hg' O1.out (Nat.le_refl _)); clear hown' hg')
    obtain ⟨A2, c2, rfl, -, -⟩ := HO'.out.slc enc3_len rfl
    go_wp2_with fail
    go_ret
    exact ⟨⟨A2, _, c2⟩, rfl, HO'.out, HB'.out⟩

/-- A net has been returned. -/
def PostAdded (b : Bool) (ys : List (List T3)) (w : World) (e : Ending) (w' : World) : Prop := ∃ v, e = .returned (.tuple #[v, .bool b]) ∧ NetB w.heap.size w' v ys ∧ Below w.heap.size w w'
theorem net_prefix {n : Int} {net : List (List T3)} {xs : List T3} (h : NetOk n (net ++ [xs])) : NetOk n net :=
  ⟨h.1, h.2.1, by have := h.2.2.1; rw [List.length_append] at this; omega, fun ys hy => h.2.2.2 ys (List.mem_append_left _ hy)⟩
theorem netLen_app {net : List (List T3)} {xs : List T3} (h : NetLen net) (hx : xs.length ≤ 16777216) : NetLen (net ++ [xs]) := fun ys hy => by
  rcases List.mem_append.1 hy with hy | hy
  · exact h ys hy
  · rw [List.mem_singleton.1 hy]; exact hx
set_option maxRecDepth 20000 in
set_option maxHeartbeats 3200000 in
theorem implPostAdd_any (A B : Option Addr) (n : Int) (m cap len c : Nat) (net : List (List T3)) (xs : List T3) (b : Bool) (ys : List (List T3)) (w : World) (h : NetS w A m net) (hm : m ≤ 1000000) (hl : NetLen net) (hx : SlE 3 enc3 w B len xs) (hlen : len ≤ 16777216)
    (hb : (b = true ∧ NetOk n (net ++ [xs]) ∧ ys = net ++ [xs]) ∨ (b = false ∧ ¬ NetOk n (net ++ [xs]) ∧ ys = [])) :
    Calls Tryz.prog 181 #[.int .i64 n, .slice A m cap, .slice B len c] w (PostAdded b ys w) := by
  have H := Lib.hid h
  have HL := Lib.hid h.len
  have HLL := Lib.hid hl
  have HX := Lib.hid hx
  have HB := Lib.hid hb
  have HNV := Lib.hid (fun W hW => implNetValid_any A n m cap net W (h.below hW) (by omega) hl)
  clear h hl hx hb
  go_enter Tryz.func181, Tryz.ntmps181
  go_wp2_with fail
  go_loopw [8, 14] (fun v i wr => ∃ k : Nat, k ≤ m ∧ i = .int .i64 k ∧ NetB w.heap.size wr v (net.take k) ∧ Below w.heap.size w wr) (fun _ i _ => m - (intOf i).toNat)
  case atStart => exact ⟨0, by omega, rfl, NetB.nil (Nat.le_refl _), below_alloc (Below.refl _ _) _⟩
  case round =>
    obtain ⟨k, hk, rfl, hnb, hbr⟩ := hrel
    have HR := Lib.hid hbr
    have hsz := hbr.size
    by_cases hkm : k < m
    · obtain ⟨bb, off, A', n', c', zs, rfl, hbl, hcell, hz, hsl, hnc⟩ := H.out.at_ hbr hkm
      have HZ := Lib.hid hz
      have HCS := Lib.hid (cloneS_any A' n' c' zs wr (hsl.below hbr) (by have h1 := HLL.out zs (List.mem_of_getElem? hz); rw [hsl.len] at h1; exact h1))
      have HNB := Lib.hid hnb
      clear hz hsl hnb
      go_wp2_with fail
      refine HCS.out.mono ?_
      rintro e w2 ⟨⟨sA, sn, sc⟩, he, hs, hb2⟩
      have he : e = .returned (.slice sA sn sc) := he
      subst he
      obtain ⟨ss, h1, h2, h3⟩ := HNB.out
      have HNS := Lib.hid (fun i (hi : (Slv.mk sA sn sc).v.ownBlock = some i) (e : u8.ownBlock = some i) => by
        have e1 := (hs.lt i hi).1
        have e2 := (h1.lt i e).2
        omega : ∀ i, (Slv.mk sA sn sc).v.ownBlock = some i → u8.ownBlock ≠ some i)
      have HS := Lib.hid (hs.base_le hbr.size)
      have HB2 := Lib.hid (below_trans hbr hb2)
      have HSZ := Lib.hid HB2.out.size
      have H1 := Lib.hid (h1.below hb2 (Nat.le_refl _))
      have H2 := Lib.hid h2
      have H3 := Lib.hid (fun (j : Nat) (s : Slv) xs (hs : ss[j]? = some s) (hx : (net.take k)[j]? = some xs) => (⟨(h3 j s xs hs hx).1.below hb2 (Nat.le_refl _), (h3 j s xs hs hx).2⟩ : OwnE 3 enc3 103 w.heap.size w2 s.v xs ∧ ∀ i, s.v.ownBlock = some i → u8.ownBlock ≠ some i))
      have HLK := Lib.hid (by rw [h2, List.length_take, HL.out]; omega : ss.length = k)
      clear hs hb2 h1 h2 h3 hbr hsz
      go_wp2_with (at_builtin; refine wpList_push_at 1 24 50 encW encW_len encW_one (by omega) ⟨sA, sn, sc⟩ _ _ rfl rfl _ _ _ rfl Tryz.underlying45 info_tt rfl w.heap.size _ ss rfl rfl rfl H1.out (by rw [HLK.out]; omega) (by rw [HLK.out]; unfold maxLen; omega) HSZ.out ?_; intro v' w' hown' hg' hl'; have NB := Lib.hid (NetB.push H1.out H2.out H3.out HS.out HNS.out hown' hg' hl'); have HB' := Lib.hid (below_grown HB2.out hg' H1.out (Nat.le_refl _)); clear hown' hg' hl')
      refine ⟨⟨k + 1, hkm, by push_cast; rfl, ?_, HB'.out⟩, by simp only [intOf]; omega⟩
      rw [List.take_add_one, HZ.out]
      exact NB.out
    · obtain rfl : k = m := by omega
      have HNB := Lib.hid (show NetB w.heap.size wr u8 net by rw [List.take_of_length_le (by rw [HL.out]; omega)] at hnb; exact hnb)
      have HCS := Lib.hid (cloneS_any B len c xs wr (HX.out.below hbr) hlen)
      clear hnb
      go_wp2_with fail
      refine HCS.out.mono ?_
      rintro e w2 ⟨⟨sA, sn, sc⟩, he, hs, hb2⟩
      have he : e = .returned (.slice sA sn sc) := he
      subst he
      obtain ⟨ss, h1, h2, h3⟩ := HNB.out
      have HNS := Lib.hid (fun i (hi : (Slv.mk sA sn sc).v.ownBlock = some i) (e : u8.ownBlock = some i) => by
        have e1 := (hs.lt i hi).1
        have e2 := (h1.lt i e).2
        omega : ∀ i, (Slv.mk sA sn sc).v.ownBlock = some i → u8.ownBlock ≠ some i)
      have HS := Lib.hid (hs.base_le hbr.size)
      have HB2 := Lib.hid (below_trans hbr hb2)
      have HSZ := Lib.hid HB2.out.size
      have H1 := Lib.hid (h1.below hb2 (Nat.le_refl _))
      have H2 := Lib.hid h2
      have H3 := Lib.hid (fun (j : Nat) (s : Slv) xs (hs : ss[j]? = some s) (hx : (net)[j]? = some xs) => (⟨(h3 j s xs hs hx).1.below hb2 (Nat.le_refl _), (h3 j s xs hs hx).2⟩ : OwnE 3 enc3 103 w.heap.size w2 s.v xs ∧ ∀ i, s.v.ownBlock = some i → u8.ownBlock ≠ some i))
      have HLK := Lib.hid (by rw [h2, HL.out] : ss.length = k)
      clear hs hb2 h1 h2 h3 hbr hsz
      go_wp2_with (at_builtin; refine wpList_push_at 1 24 50 encW encW_len encW_one (by omega) ⟨sA, sn, sc⟩ _ _ rfl rfl _ _ _ rfl Tryz.underlying45 info_tt rfl w.heap.size _ ss rfl rfl rfl H1.out (by rw [HLK.out]; omega) (by rw [HLK.out]; unfold maxLen; omega) HSZ.out ?_; intro v' w' hown' hg' hl'; have NB := Lib.hid (NetB.push H1.out H2.out H3.out HS.out HNS.out hown' hg' hl'); have HB' := Lib.hid (below_grown HB2.out hg' H1.out (Nat.le_refl _)); clear hown' hg' hl')
      obtain ⟨A2, m2, c2, rfl, hm2, hns2⟩ : ∃ A2 m2 c2, v' = .slice A2 m2 c2 ∧ m2 = k + 1 ∧ NetS w' A2 m2 (net ++ [xs]) := by
        obtain ⟨A2, c2, h1, h2, -⟩ := NB.out.netS
        exact ⟨A2, _, c2, h1, by rw [List.length_append, HL.out]; rfl, h2⟩
      have HM2 := Lib.hid hm2
      have HNS2 := Lib.hid hns2
      have HV1 := Lib.hid (HNV.out _ HB'.out)
      clear hns2 hm2
      go_wp2_with fail
      refine HV1.out.mono ?_
      intro e w3 hp
      by_cases k1 : NetOk n net
      · obtain ⟨rfl, hb3⟩ := hp.yes k1
        have HB3 := Lib.hid hb3
        have HV2 := Lib.hid (implNetValid_any A2 n m2 c2 (net ++ [xs]) w3 (HNS2.out.below hb3) (by rw [HM2.out]; omega) (netLen_app HLL.out (by rw [HX.out.len]; exact hlen)))
        clear hp hb3
        go_wp2_with fail
        refine HV2.out.mono ?_
        intro e w4 hp
        rcases HB.out with ⟨rfl, h5, rfl⟩ | ⟨rfl, h5, rfl⟩
        · obtain ⟨rfl, hb4⟩ := hp.yes h5
          have HB4 := Lib.hid hb4
          clear hp hb4
          go_wp2_with fail
          go_ret2
          exact ⟨_, rfl, (NB.out.below HB3.out).below HB4.out, below_trans (below_trans HB'.out HB3.out) HB4.out⟩
        · obtain ⟨rfl, hb4⟩ := hp.no h5
          have HB4 := Lib.hid hb4
          clear hp hb4
          go_wp2_with fail
          go_ret2
          have hb4 := below_trans (below_trans HB'.out HB3.out) HB4.out
          exact ⟨_, rfl, NetB.nil hb4.size, below_alloc hb4 _⟩
      · obtain ⟨rfl, hb3⟩ := hp.no k1
        rcases HB.out with ⟨rfl, h5, rfl⟩ | ⟨rfl, h5, rfl⟩
        · exact absurd (net_prefix h5) k1
        · have HB3 := Lib.hid hb3
          clear hp hb3
          go_wp2_with fail
          go_ret2
          have hb4 := below_trans HB'.out HB3.out
          exact ⟨_, rfl, NetB.nil hb4.size, below_alloc hb4 _⟩
end Go.Proofs.YtgjllminidlolaaGreatDoor
