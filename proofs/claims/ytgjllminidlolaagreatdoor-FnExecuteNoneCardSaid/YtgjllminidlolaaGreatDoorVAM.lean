/- Texts of mine in one: EWalkK EWalkN. -/
import Derived.Test.YtgjllminidlolaaGreatDoorVAL
import Derived.Test.YtgjllminidlolaaGreatDoorVAH
import Derived.Test.YtgjllminidlolaaGreatDoorVAA
/- Contracts: Execute of the program. -/
set_option linter.unusedVariables false
namespace Go.Proofs.YtgjllminidlolaaGreatDoor
open Go.RowKit

theorem own_nil {α : Type} {k ty base : Nat} {enc : α → List Value} (w : World) : OwnE k enc ty base w (.slice none 0 0) ([] : List α) := ⟨by simp, .inl ⟨rfl, rfl⟩⟩
theorem st_new (w : World) (T : TypeId) (av : Nat → Prop) (ha : ∀ j, w.heap.size ≤ j → ¬ av j) : St w w.heap.size ⟨[], [], []⟩ av (w.alloc (.cells #[.slice none 0 0, .slice none 0 0, .slice none 0 0] T)) :=
  ⟨Nat.le_refl _, by show _ < (w.heap.push _).size; rw [Array.size_push]; omega, below_alloc (Below.refl _ _) _, ha _ (Nat.le_refl _), .slice none 0 0, .slice none 0 0, .slice none 0 0,
    ⟨by simp, by simp, by simp, fun j => by simp⟩, ⟨own_nil _, fun j hj => (by cases hj)⟩, ⟨[], own_nil _, fun j hj => (by cases hj), rfl, fun j u xs hu => (by cases hu)⟩, own_nil _, fun j hj => (by cases hj)⟩
/-- Each line of a script is obeyed. -/
def LinesGo (w : World) (ls : List (List UInt8)) (st : Nat → LSt) (outs : Nat → List ByteArray) : Prop :=
  ∀ (j : Nat) (l : List UInt8), ls[j]? = some l → ∀ (W : World) (R : Nat) (av : Nat → Prop), St w R (st j) av W → (∀ i, W.heap.size ≤ i → ¬ av i) →
    Calls Tryz.prog 36 #[.pointer (some ⟨R, 0, none⟩), .string (bs l)] W (Obeyed w R (st (j + 1)) (outs j) av W)

set_option maxRecDepth 20000 in
set_option maxHeartbeats 3200000 in
theorem execute_any (s : ByteArray) (ls : List (List UInt8)) (last : List UInt8) (st : Nat → LSt) (outs : Nat → List ByteArray) (w : World) (hm : Env w) (hs : s.size ≤ 500) (hc : cutL 10 s.data.toList = ls ++ [last])
    (h0 : st 0 = ⟨[], [], []⟩) (hgo : LinesGo w ls st outs) (hlen : ∀ j, (told outs j).length ≤ 100000)
    (ha : (st ls.length).roads.length < 100 ∧ (st ls.length).net.length < 100 ∧ (st ls.length).list.length < 100)
    (hj : (Lib.join ((told outs ls.length).map (·.data.toList) ++ [endL (st ls.length).roads.length (st ls.length).net.length (st ls.length).list.length]) [10]).length ≤ 100000000) :
    Calls Tryz.prog 11 #[.string s] w
      (Only (.string (bs (Lib.join ((told outs ls.length).map (·.data.toList) ++ [endL (st ls.length).roads.length (st ls.length).net.length (st ls.length).list.length]) [10] ++ [10]))) w) := by
  have HM := Lib.hid hm
  have HC := Lib.hid hc
  have HG := Lib.hid hgo
  have HL := Lib.hid hlen
  have HA := Lib.hid ha
  have HJ := Lib.hid hj
  have H0 := Lib.hid h0
  have i0 : ¬ 500 < (s.size : Int) := by omega
  clear hm hc hgo hlen ha hj h0
  go_enter Tryz.func11, Tryz.ntmps11
  go_wp2_with fail
  have HB1 := Lib.hid (below_alloc (below_alloc (Below.refl w.heap.size w) (.cells #[.slice none 0 0, .slice none 0 0, .slice none 0 0] 59)) (.cells #[] 9))
  have HS1 := Lib.hid (((st_new w 59 (fun _ => False) (fun _ _ h => h)).fewer (av' := fun i => i = w.heap.size + 1) (fun j hj he => by rw [show (w.alloc (.cells #[.slice none 0 0, .slice none 0 0, .slice none 0 0] 59)).heap.size = w.heap.size + 1 from by show (w.heap.push _).size = _; rw [Array.size_push]] at hj; omega)).below (below_alloc (Below.refl _ _) (.cells #[] 9)))
  refine (split_any 10 s _ (HM.out.below HB1.out HM.out.1) (by omega)).mono ?_
  rintro e w2 ⟨g, n, hn, rfl, hsl, hb2, hg1, hg2, hn1⟩
  rw [HC.out] at hn hsl
  rw [List.length_append, List.length_singleton] at hn
  obtain ⟨m, hm⟩ : ∃ m, ls.length = m := ⟨_, rfl⟩
  rw [hm] at hn
  subst hn
  have HSL := Lib.hid hsl
  have HB2 := Lib.hid (below_trans HB1.out hb2)
  have HS2 := Lib.hid (HS1.out.below hb2)
  have HM2 := Lib.hid hm
  have hW1 : ((w.alloc (.cells #[.slice none 0 0, .slice none 0 0, .slice none 0 0] 59)).alloc (.cells #[] 9)).heap.size = w.heap.size + 2 := by
    show ((w.heap.push _).push _).size = _
    rw [Array.size_push, Array.size_push]
  have hW0 : (w.alloc (.cells #[.slice none 0 0, .slice none 0 0, .slice none 0 0] 59)).heap.size = w.heap.size + 1 := by
    show (w.heap.push _).size = _
    rw [Array.size_push]
  have HO2 := Lib.hid ((own_new' (enc := encS) (k := 1) (w.alloc (.cells #[.slice none 0 0, .slice none 0 0, .slice none 0 0] 59)) 9 (w.heap.size + 1) (by omega) encS_len [] #[] rfl (by simp) rfl (g := w.heap.size + 1) hW0.symm).below hb2 (Nat.le_refl _))
  rw [hW1] at hg1
  clear hsl hb2 hm HS1
  go_wp2_with fail
  go_loopw [4, 22, 7] (fun s i _ wr => ∃ j : Nat, j ≤ m ∧ i = .int .i64 j ∧ OwnE 1 encS 9 (w.heap.size + 1) wr s (told outs j) ∧ s.ownBlock ≠ some g ∧ SlE 1 encS wr (some ⟨g, 0, none⟩) (m + 1) ((ls ++ [last]).map bs) ∧
    St w w.heap.size (st j) (fun i => s.ownBlock = some i) wr ∧ g < wr.heap.size) (fun _ i _ _ => m - (intOf i).toNat)
  case atStart =>
    exact ⟨0, by omega, rfl, HO2.out, by simp [Value.ownBlock]; omega, HSL.out, by rw [H0.out]; exact HS2.out.fewer (fun i _ hi => by simp [Value.ownBlock] at hi; omega), hg2⟩
  case round =>
    obtain ⟨j, hj, rfl, hown, hsg, hsl, hst, hgw⟩ := hrel
    have HO := Lib.hid hown
    have HSR := Lib.hid hsl
    have HST := Lib.hid hst
    have hszr := hst.2.2.1.size
    have hRr := hst.2.1
    clear hown hsl hst
    by_cases hjm : j < m
    rotate_left
    · have hjm' : j = m := by omega
      subst hjm'
      rw [HM2.out] at HA HJ
      obtain ⟨ha1, ha2, ha3⟩ := HA.out
      have HSM := Lib.hid (summary_any w w.heap.size (st j) _ wr HST.out ha1 ha2 ha3)
      go_wp2_with fail
      refine HSM.out.mono ?_
      rintro e w3 ⟨rfl, hb3⟩
      have HO3 := Lib.hid (HO.out.below hb3 (Nat.le_refl _))
      have HB3 := Lib.hid ((HST.out.below hb3).2.2.1)
      have hsz3 : w.heap.size + 1 ≤ w3.heap.size := by have := hb3.size; omega
      have HLL := Lib.hid (HL.out j)
      clear hb3 HSM HSR
      generalize hTX : endL (st j).roads.length (st j).net.length (st j).list.length = tx at *
      generalize htd : told outs j = td at *
      have HTX := Lib.hid hTX
      have HTD := Lib.hid htd
      clear hTX htd
      go_wp2_with (at_builtin; refine wpList_push 1 16 9 encS encS_len encS_one (by omega) (bs tx) _ _ rfl rfl _ _ _ rfl Tryz.underlying60 info_str rfl (w.heap.size + 1) _ _ rfl rfl rfl HO3.out (by have := HLL.out; omega) (by have := HLL.out; unfold maxLen; omega) hsz3 ?_; intro v' w' hown' hg'; have HO' := Lib.hid hown'; have HB' := Lib.hid (HB3.out.grown hg' HB3.out.size (fun i hi => by have := (HO3.out.lt i hi).1; omega)); clear hown' hg')
      obtain ⟨JJ, hJJ⟩ : ∃ JJ, Lib.join ((td ++ [bs tx]).map (·.data.toList)) [10] = JJ := ⟨_, rfl⟩
      have hJl : JJ.length ≤ 100000000 := by rw [← hJJ, List.map_append]; exact HJ.out
      have hjn := join_any HO'.out [10] (by rw [List.length_append, List.length_singleton]; have := HLL.out; omega) (by rw [hJJ]; omega)
      rw [hJJ] at hjn
      have HJN := Lib.hid hjn
      have HJJ := Lib.hid hJJ
      clear hjn hJJ
      have hadd : ∀ W, (Op.stringOp .add (bs JJ) ⟨#[10]⟩).run Tryz.prog W = .ok (.string (bs (JJ ++ [10]))) W := fun W => by
        have h := run_string_add_sum (P := Tryz.prog) (w := W) (bs JJ) (bs [10]) (by rw [bs_size, bs_size, List.length_singleton]; omega)
        rw [bs_append] at h
        exact h
      refine HJN.out.mono ?_
      rintro e w5 ⟨rfl, hb5⟩
      have HB5 := Lib.hid (HB'.out.trans (hb5.mono HB'.out.size))
      clear hb5 HJN HJ
      go_wp2_with fail
      go_ret
      refine ⟨?_, HB5.out⟩
      rw [HM2.out, HTX.out, HTD.out, ← HJJ.out, List.map_append]
      rfl
    · obtain ⟨lj, hlj⟩ : ∃ lj, ls[j]? = some lj := ⟨_, List.getElem?_eq_getElem (by rw [HM2.out]; exact hjm)⟩
      obtain ⟨b, off, x, hA, hbl, hx, -, g1⟩ := atS HSR.out (Below.refl _ _) (show j < m + 1 by omega)
      injection hA with hA
      injection hA with hA1 hA2
      subst hA1 hA2
      rw [Nat.zero_add] at g1
      obtain rfl : x = bs lj := by
        rw [List.getElem?_map, List.getElem?_append_left (by rw [HM2.out]; exact hjm), hlj] at hx
        simpa using hx.symm
      have HOB := Lib.hid (HG.out j lj hlj wr w.heap.size _ HST.out (fun i hi hb => by have := (HO.out.lt i hb).2; omega))
      clear hx hlj
      go_wp2_with fail
      refine HOB.out.mono ?_
      rintro e w5 ⟨v, rfl, hown5, hg5, hst5⟩
      obtain ⟨n5, hn5⟩ : ∃ n5, (outs j).length = n5 := ⟨_, rfl⟩
      obtain ⟨A5, c5, rfl, hsl5, -⟩ := hown5.slc encS_len hn5
      have hRg : some w.heap.size ≠ some g := fun h => by injection h with h; omega
      have HO5 := Lib.hid (HO.out.apart hg5 (noBad_ne (bad := fun i => i = w.heap.size) (fun i hi hb => by have := (HO.out.lt i hi).1; omega) rfl))
      have HSL5 := Lib.hid hsl5
      have HSR5 := Lib.hid (HSR.out.grown hg5 hRg)
      have HST5 := Lib.hid hst5
      have hgw5 : g < w5.heap.size := Nat.lt_of_lt_of_le hgw hg5.size
      have hsz5 : w.heap.size + 1 ≤ w5.heap.size := by omega
      have HLL := Lib.hid (HL.out (j + 1))
      have htl : (told outs j).length + n5 ≤ 100000 := by
        have := HLL.out
        rw [show told outs (j + 1) = told outs j ++ outs j from rfl, List.length_append, hn5] at this
        exact this
      clear hown5 hsl5 hg5 hst5 HOB HSR HST HLL
      go_wp2_with (at_builtin; refine wpList_cat_at (ty := 9) (bytes := 16) (base := w.heap.size + 1) (ys := outs j) encS_len encS_one (by omega) rfl _ _ _ rfl Tryz.underlying60 info_str rfl _ _ rfl HO5.out rfl HSL5.out (by omega) (by unfold maxLen; omega) hsz5 ?_; intro v' w' hown' hg' hor'; have HO' := Lib.hid hown'; have HOR' := Lib.hid (show v'.ownBlock = u4.ownBlock ∨ v'.ownBlock = some w5.heap.size from hor'); have HG' := Lib.hid (show w5.grownBy w' u4.ownBlock from hg'); clear hown' hg' hor')
      have hsg' : u4.ownBlock ≠ some g := hsg
      have hST' : St w w.heap.size (st (j + 1)) (fun i => v'.ownBlock = some i) w' := by
        refine ((HST5.out.fewer (av' := fun i => u4.ownBlock = some i ∨ w5.heap.size ≤ i) (fun i hi hb => by rcases hb with hb | hb; exact hb; omega)).kept HG'.out (fun i hi => ⟨.inl hi, by have := (HO5.out.lt i hi).1; omega⟩)).fewer (fun i _ hi => ?_)
        rcases HOR'.out with h | h
        · exact .inl (by rw [← h]; exact hi)
        · refine .inr ?_
          rw [h] at hi
          injection hi with hi
          omega
      have hvg : v'.ownBlock ≠ some g := by
        rcases HOR'.out with h | h
        · rw [h]; exact hsg
        · rw [h]
          intro he
          injection he with he
          omega
      have HST' := Lib.hid hST'
      clear hST'
      go_roundw
      case rel => exact ⟨j + 1, by omega, by go_num, HO'.out, hvg, HSR5.out.grown HG'.out hsg, HST'.out, Nat.lt_of_lt_of_le hgw5 HG'.out.size⟩
      case measure => simp [intOf]; omega
end Go.Proofs.YtgjllminidlolaaGreatDoor
/- Contracts: Execute of a script of seats. -/
set_option linter.unusedVariables false
namespace Go.Proofs.YtgjllminidlolaaGreatDoor
open Go.RowKit

/-- A line that is known is obeyed. -/
theorem obey_line {w0 W : World} {R : Nat} {s s' : LSt} {av : Nat → Prop} (hm : Env w0) (l wd : List UInt8) (ws : List (List UInt8)) (nw : Int) (k : Nat) (out out' : List ByteArray) (ok : Bool)
    (hs : St w0 R s av W) (ha : ∀ j, W.heap.size ≤ j → ¬ av j) (hl : l.length ≤ 1000) (hc : cutL 32 l = wd :: ws) (hn : cmdOf (bs wd) = some (nw, k)) (hf : Fits nw ws.length)
    (hk : ∀ (W' : World) (av' : Nat → Prop) (A : Option Addr) (n c : Nat), n = ws.length → (∀ j, W'.heap.size ≤ j → ¬ av' j) → St w0 R s av' W' → SlE 1 encI W' A n (ws.map numL) → Calls Tryz.prog k #[.pointer (some ⟨R, 0, none⟩), .slice A n c] W' (Ran w0 R s' out ok av' W'))
    (hcf : ∀ (args : Array Value) (W : World), (callFunc k args).run Tryz.prog W = .ok (.enter k args) W)
    (ho : (ok = true ∧ out' = out) ∨ (ok = false ∧ out' = [bs noL])) :
    Calls Tryz.prog 36 #[.pointer (some ⟨R, 0, none⟩), .string (bs l)] W (Obeyed w0 R s' out' av W) := by
  have hb := hs.2.2.1
  refine obey_run w0 R s s' av (bs l) nw k (ws.map numL) out out' ok W hs ha (fun W' hb' => ?_) (fun W' av' A n c hn ha' hst hsl => ?_) hcf ho
  · exact parse_yes (bs l) wd ws nw k W' ((hm.later hb).later hb') (by rw [bs_size]; exact hl) hc hn hf
  · exact hk W' av' A n c (by rw [List.length_map] at hn; exact hn) ha' hst hsl
def seatSt (xs : List B3) (j : Nat) : LSt := ⟨[], [], xs.take j⟩
theorem cmd_inside : cmdOf (bs (kindL true)) = some (2, 144) := by kernel_rfl
theorem cmd_outside : cmdOf (bs (kindL false)) = some (2, 145) := by kernel_rfl
theorem cmd_seats : cmdOf (bs seatsL) = some (0, 146) := by kernel_rfl
theorem cf_inside : ∀ (args : Array Value) (W : World), (callFunc 144 args).run Tryz.prog W = .ok (.enter 144 args) W := fun _ _ => by kernel_rfl
theorem cf_outside : ∀ (args : Array Value) (W : World), (callFunc 145 args).run Tryz.prog W = .ok (.enter 145 args) W := fun _ _ => by kernel_rfl
theorem cf_seats : ∀ (args : Array Value) (W : World), (callFunc 146 args).run Tryz.prog W = .ok (.enter 146 args) W := fun _ _ => by kernel_rfl
theorem seat_go (xs : List B3) (n : Nat) (hok : BookOk n xs) (hn : n ≤ 5) (w : World) (hm : Env w) : LinesGo w (seatLines xs) (seatSt xs) (seatOuts xs) := by
  intro j l hl W R av hst ha
  have h5 := book_five hok (by omega)
  have hlen := hok.2.2.1
  by_cases hj : j < xs.length
  · obtain ⟨p, hp⟩ : ∃ p, xs[j]? = some p := ⟨_, List.getElem?_eq_getElem hj⟩
    have hpo := hok.2.2.2.1 p (List.mem_of_getElem? hp)
    unfold OkB at hpo
    have hn7 := hok.2.1
    unfold seatLines at hl
    rw [List.getElem?_append_left (by rw [List.length_map]; exact hj), List.getElem?_map, hp] at hl
    obtain rfl : lineB p = l := by simpa using hl
    have ho : seatOuts xs j = [bs okL] := by rw [seatOuts, if_pos hj]
    have hst' : seatSt xs (j + 1) = ⟨[], [], xs.take j ++ [p]⟩ := by rw [seatSt, take_next hp]
    have hb : BJoinOk 5 (xs.take j) [p] := ⟨book_take h5 j, by rw [← take_next hp]; exact book_take h5 (j + 1)⟩
    have hll : (lineB p).length ≤ 1000 := Nat.le_trans (lineB_len p (by omega) (by omega)) (by omega)
    rw [ho, hst']
    obtain ⟨x, y, z⟩ := p
    dsimp only at hpo
    have e1 : [Lib.decDigits x.toNat, Lib.decDigits y.toNat].map numL = [x, y] := by
      simp only [List.map_cons, List.map_nil]
      rw [numL_dec _ (by omega), numL_dec _ (by omega), Int.toNat_of_nonneg (by omega), Int.toNat_of_nonneg (by omega)]
    cases z with
    | true =>
      refine obey_line hm _ _ _ 2 144 [bs okL] [bs okL] true hst ha hll (lineB_cut _) cmd_inside (.inl rfl) (fun W' av' A m c hm' ha' hst2 hsl => ?_) cf_inside (.inl ⟨rfl, rfl⟩)
      subst hm'
      rw [e1] at hsl
      exact inside_any w R (seatSt xs j) av' A c x y _ true W' hst2 ha' hsl (by show (xs.take j).length ≤ 1000; rw [List.length_take]; omega) (.inl ⟨rfl, hb, rfl⟩)
    | false =>
      refine obey_line hm _ _ _ 2 145 [bs okL] [bs okL] true hst ha hll (lineB_cut _) cmd_outside (.inl rfl) (fun W' av' A m c hm' ha' hst2 hsl => ?_) cf_outside (.inl ⟨rfl, rfl⟩)
      subst hm'
      rw [e1] at hsl
      exact outside_any w R (seatSt xs j) av' A c x y _ true W' hst2 ha' hsl (by show (xs.take j).length ≤ 1000; rw [List.length_take]; omega) (.inl ⟨rfl, hb, rfl⟩)
  · have hj2 := (List.getElem?_eq_some_iff.1 hl).1
    unfold seatLines at hj2
    rw [List.length_append, List.length_map, List.length_singleton] at hj2
    obtain rfl : j = xs.length := by omega
    unfold seatLines at hl
    rw [List.getElem?_append_right (by rw [List.length_map]; exact Nat.le_refl _), List.length_map, Nat.sub_self] at hl
    obtain rfl : seatsL = l := by simpa using hl
    have ho : seatOuts xs xs.length = [bs (spacedL (plan xs 5))] := by rw [seatOuts, if_neg (by omega), if_pos rfl]
    have hst' : seatSt xs (xs.length + 1) = seatSt xs xs.length := by rw [seatSt, seatSt, List.take_of_length_le (by omega), List.take_of_length_le (Nat.le_refl _)]
    have hlist : (seatSt xs xs.length).list = xs := List.take_of_length_le (Nat.le_refl _)
    rw [ho, hst']
    refine obey_line hm _ _ _ 0 146 [bs (spacedL (plan xs 5))] [bs (spacedL (plan xs 5))] true hst ha (by decide) (cutL_end 32 seatsL (by decide)) cmd_seats (.inl rfl) (fun W' av' A m c hm' ha' hst2 hsl => ?_) cf_seats (.inl ⟨rfl, rfl⟩)
    exact seats_any w R (seatSt xs xs.length) av' A m c (plan xs 5) true W' hst2 (by rw [hlist]; omega) (.inl ⟨rfl, by rw [hlist]; exact h5, by rw [hlist]⟩)
/-- A script of seats is run. -/
theorem seat_execute (xs : List B3) (n : Nat) (hok : BookOk n xs) (hn : n ≤ 5) (w : World) (hm : Env w) :
    Calls Tryz.prog 11 #[.string (bs (textOf (seatLines xs)))] w (Only (.string (bs (seatOut xs.length (plan xs n)))) w) := by
  have hll : (seatLines xs).length = xs.length + 1 := by unfold seatLines; rw [List.length_append, List.length_map, List.length_singleton]
  have hlist : (seatSt xs (xs.length + 1)).list.length = xs.length := by show (xs.take (xs.length + 1)).length = _; rw [List.length_take]; omega
  have hlen := hok.2.2.1
  have h16 := (seat_told_len xs (xs.length + 1)).1
  have e := seat_out xs (plan xs n) (plan_five hok hn)
  have hlo : ((told (seatOuts xs) (xs.length + 1)).map (·.data.toList) ++ [endL 0 0 xs.length]).length ≤ 18 := by rw [List.length_append, List.length_map, List.length_singleton]; omega
  have h1 := execute_any (bs (textOf (seatLines xs))) (seatLines xs) [] (seatSt xs) (seatOuts xs) w hm (by rw [bs_size]; have := seat_len hok; omega) (seat_cut xs) rfl (seat_go xs n hok hn w hm)
    (fun j => by have := (seat_told_len xs j).1; omega)
    (by rw [hll, hlist]; exact ⟨Nat.zero_lt_succ _, Nat.zero_lt_succ _, by omega⟩)
    (by
      rw [hll, hlist]
      show (Lib.join ((told (seatOuts xs) (xs.length + 1)).map (·.data.toList) ++ [endL 0 0 xs.length]) [10]).length ≤ 100000000
      have h2 := join_le [10] 100 ((told (seatOuts xs) (xs.length + 1)).map (·.data.toList) ++ [endL 0 0 xs.length]) (fun l hl => ?_)
      · simp only [List.length_singleton] at h2
        refine Nat.le_trans h2 (Nat.le_trans (Nat.mul_le_mul_right _ hlo) (by decide))
      · rcases List.mem_append.1 hl with h | h
        · rw [seat_told_all, List.map_append] at h
          rcases List.mem_append.1 h with h | h
          · rw [List.map_replicate] at h
            rw [List.eq_of_mem_replicate h]
            decide
          · simp only [List.map_cons, List.map_nil, List.mem_singleton] at h
            subst h
            rw [bs_data]
            have h5 := book_five hok (by omega)
            refine Nat.le_trans (spaced_le (fun x hx => ?_)) (by rw [plan_len h5]; omega)
            refine ⟨plan_nonneg (n := 5) h5 x hx, ?_⟩
            obtain ⟨k, hk⟩ := List.getElem?_of_mem hx
            have hkl : k < xs.length := by
              have := (List.getElem?_eq_some_iff.1 hk).1
              rw [plan_len h5] at this
              exact this
            have h1 := (plan_all (n := 5) h5).2 k _ x (List.getElem?_eq_getElem hkl) hk
            have h2 := (taken_bd xs (xs[k]).a (xs[k]).c).2
            omega
        · simp only [List.mem_singleton] at h
          subst h
          exact Nat.le_trans (endL_len 0 0 xs.length (by decide) (by decide) (by omega)) (by decide))
  rw [hll, hlist] at h1
  rw [← e]
  exact h1
end Go.Proofs.YtgjllminidlolaaGreatDoor
