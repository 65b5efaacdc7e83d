/- Contracts: Execute of a script of seats. -/
import Derived.Test.YtgjllminidlolaaGreatDoorEWalkK
set_option linter.unusedVariables false
namespace Go.Proofs.YtgjllminidlolaaGreatDoor
open Go.RowKit

theorem Env.later {w W : World} (h : Env w) (hb : Below w.heap.size w W) : Env W := ⟨Nat.lt_of_lt_of_le h.1 hb.size, h.below hb h.1⟩
/-- A line that is known is obeyed. -/
theorem obey_line {w0 W : World} {R : Nat} {s s' : LSt} {av : Nat → Prop} (hm : Env w0) (l wd : List UInt8) (ws : List (List UInt8)) (nw : Int) (k : Nat) (out out' : List ByteArray) (ok : Bool)
    (hs : St w0 R s av W) (ha : ∀ j, W.heap.size ≤ j → ¬ av j) (hl : l.length ≤ 1000) (hc : cutL 32 l = wd :: ws) (hn : cmdOf (bs wd) = some (nw, k)) (hf : Fits nw ws.length)
    (hk : ∀ (W' : World) (av' : Nat → Prop) (A : Option Addr) (n c : Nat), n = ws.length → (∀ j, W'.heap.size ≤ j → ¬ av' j) → St w0 R s av' W' → SlE 1 encI W' A n (ws.map numL) → Calls Tryz.prog k #[.pointer (some ⟨R, 0, none⟩), .slice A n c] W' (Ran w0 R s' out ok av' W'))
    (hcf : ∀ (args : Array Value) (W : World), (callFunc k args).run Tryz.prog W = .ok (.enter k args) W)
    (ho : (ok = true ∧ out' = out) ∨ (ok = false ∧ out' = [bs noL])) :
    Calls Tryz.prog 36 #[.pointer (some ⟨R, 0, none⟩), .string (bs l)] W (Obeyed w0 R s' out' av W) := by
  have hb := hs.2.2.1
  refine obey_run w0 R s s' av (bs l) nw k (ws.map numL) out out' ok W hs ha (fun W' hb' => ?_) (fun W' av' A n c hn ha' hst hsl => ?_) hcf ho
  · exact parse_yes (bs l) wd ws nw k W' ((hm.later hb).later hb') (by rw [bs_size]; exact hl) hc hn hf
  · exact hk W' av' A n c (by rw [List.length_map] at hn; exact hn) ha' hst hsl
def seatSt (xs : List B3) (j : Nat) : LSt := ⟨[], [], xs.take j⟩
theorem cmd_inside : cmdOf (bs (kindL true)) = some (2, 144) := by kernel_rfl
theorem cmd_outside : cmdOf (bs (kindL false)) = some (2, 145) := by kernel_rfl
theorem cmd_seats : cmdOf (bs seatsL) = some (0, 146) := by kernel_rfl
theorem cf_inside : ∀ (args : Array Value) (W : World), (callFunc 144 args).run Tryz.prog W = .ok (.enter 144 args) W := fun _ _ => by kernel_rfl
theorem cf_outside : ∀ (args : Array Value) (W : World), (callFunc 145 args).run Tryz.prog W = .ok (.enter 145 args) W := fun _ _ => by kernel_rfl
theorem cf_seats : ∀ (args : Array Value) (W : World), (callFunc 146 args).run Tryz.prog W = .ok (.enter 146 args) W := fun _ _ => by kernel_rfl
theorem seat_go (xs : List B3) (n : Nat) (hok : BookOk n xs) (hn : n ≤ 5) (w : World) (hm : Env w) : LinesGo w (seatLines xs) (seatSt xs) (seatOuts xs) := by
  intro j l hl W R av hst ha
  have h5 := book_five hok (by omega)
  have hlen := hok.2.2.1
  by_cases hj : j < xs.length
  · obtain ⟨p, hp⟩ : ∃ p, xs[j]? = some p := ⟨_, List.getElem?_eq_getElem hj⟩
    have hpo := hok.2.2.2.1 p (List.mem_of_getElem? hp)
    unfold OkB at hpo
    have hn7 := hok.2.1
    unfold seatLines at hl
    rw [List.getElem?_append_left (by rw [List.length_map]; exact hj), List.getElem?_map, hp] at hl
    obtain rfl : lineB p = l := by simpa using hl
    have ho : seatOuts xs j = [bs okL] := by rw [seatOuts, if_pos hj]
    have hst' : seatSt xs (j + 1) = ⟨[], [], xs.take j ++ [p]⟩ := by rw [seatSt, take_next hp]
    have hb : BJoinOk 5 (xs.take j) [p] := ⟨book_take h5 j, by rw [← take_next hp]; exact book_take h5 (j + 1)⟩
    have hll : (lineB p).length ≤ 1000 := Nat.le_trans (lineB_len p (by omega) (by omega)) (by omega)
    rw [ho, hst']
    obtain ⟨x, y, z⟩ := p
    dsimp only at hpo
    have e1 : [Lib.decDigits x.toNat, Lib.decDigits y.toNat].map numL = [x, y] := by
      simp only [List.map_cons, List.map_nil]
      rw [numL_dec _ (by omega), numL_dec _ (by omega), Int.toNat_of_nonneg (by omega), Int.toNat_of_nonneg (by omega)]
    cases z with
    | true =>
      refine obey_line hm _ _ _ 2 144 [bs okL] [bs okL] true hst ha hll (lineB_cut _) cmd_inside (.inl rfl) (fun W' av' A m c hm' ha' hst2 hsl => ?_) cf_inside (.inl ⟨rfl, rfl⟩)
      subst hm'
      rw [e1] at hsl
      exact inside_any w R (seatSt xs j) av' A c x y _ true W' hst2 ha' hsl (by show (xs.take j).length ≤ 1000; rw [List.length_take]; omega) (.inl ⟨rfl, hb, rfl⟩)
    | false =>
      refine obey_line hm _ _ _ 2 145 [bs okL] [bs okL] true hst ha hll (lineB_cut _) cmd_outside (.inl rfl) (fun W' av' A m c hm' ha' hst2 hsl => ?_) cf_outside (.inl ⟨rfl, rfl⟩)
      subst hm'
      rw [e1] at hsl
      exact outside_any w R (seatSt xs j) av' A c x y _ true W' hst2 ha' hsl (by show (xs.take j).length ≤ 1000; rw [List.length_take]; omega) (.inl ⟨rfl, hb, rfl⟩)
  · have hj2 := (List.getElem?_eq_some_iff.1 hl).1
    unfold seatLines at hj2
    rw [List.length_append, List.length_map, List.length_singleton] at hj2
    obtain rfl : j = xs.length := by omega
    unfold seatLines at hl
    rw [List.getElem?_append_right (by rw [List.length_map]; exact Nat.le_refl _), List.length_map, Nat.sub_self] at hl
    obtain rfl : seatsL = l := by simpa using hl
    have ho : seatOuts xs xs.length = [bs (spacedL (plan xs 5))] := by rw [seatOuts, if_neg (by omega), if_pos rfl]
    have hst' : seatSt xs (xs.length + 1) = seatSt xs xs.length := by rw [seatSt, seatSt, List.take_of_length_le (by omega), List.take_of_length_le (Nat.le_refl _)]
    have hlist : (seatSt xs xs.length).list = xs := List.take_of_length_le (Nat.le_refl _)
    rw [ho, hst']
    refine obey_line hm _ _ _ 0 146 [bs (spacedL (plan xs 5))] [bs (spacedL (plan xs 5))] true hst ha (by decide) (cutL_end 32 seatsL (by decide)) cmd_seats (.inl rfl) (fun W' av' A m c hm' ha' hst2 hsl => ?_) cf_seats (.inl ⟨rfl, rfl⟩)
    exact seats_any w R (seatSt xs xs.length) av' A m c (plan xs 5) true W' hst2 (by rw [hlist]; omega) (.inl ⟨rfl, by rw [hlist]; exact h5, by rw [hlist]⟩)
/-- A script of seats is run. -/
theorem seat_execute (xs : List B3) (n : Nat) (hok : BookOk n xs) (hn : n ≤ 5) (w : World) (hm : Env w) :
    Calls Tryz.prog 11 #[.string (bs (textOf (seatLines xs)))] w (Only (.string (bs (seatOut xs.length (plan xs n)))) w) := by
  have hll : (seatLines xs).length = xs.length + 1 := by unfold seatLines; rw [List.length_append, List.length_map, List.length_singleton]
  have hlist : (seatSt xs (xs.length + 1)).list.length = xs.length := by show (xs.take (xs.length + 1)).length = _; rw [List.length_take]; omega
  have hlen := hok.2.2.1
  have h16 := (seat_told_len xs (xs.length + 1)).1
  have e := seat_out xs (plan xs n) (plan_five hok hn)
  have hlo : ((told (seatOuts xs) (xs.length + 1)).map (·.data.toList) ++ [endL 0 0 xs.length]).length ≤ 18 := by rw [List.length_append, List.length_map, List.length_singleton]; omega
  have h1 := execute_any (bs (textOf (seatLines xs))) (seatLines xs) [] (seatSt xs) (seatOuts xs) w hm (by rw [bs_size]; have := seat_len hok; omega) (seat_cut xs) rfl (seat_go xs n hok hn w hm)
    (fun j => by have := (seat_told_len xs j).1; omega)
    (by rw [hll, hlist]; exact ⟨Nat.zero_lt_succ _, Nat.zero_lt_succ _, by omega⟩)
    (by
      rw [hll, hlist]
      show (Lib.join ((told (seatOuts xs) (xs.length + 1)).map (·.data.toList) ++ [endL 0 0 xs.length]) [10]).length ≤ 100000000
      have h2 := join_le [10] 100 ((told (seatOuts xs) (xs.length + 1)).map (·.data.toList) ++ [endL 0 0 xs.length]) (fun l hl => ?_)
      · simp only [List.length_singleton] at h2
        refine Nat.le_trans h2 (Nat.le_trans (Nat.mul_le_mul_right _ hlo) (by decide))
      · rcases List.mem_append.1 hl with h | h
        · rw [seat_told_all, List.map_append] at h
          rcases List.mem_append.1 h with h | h
          · rw [List.map_replicate] at h
            rw [List.eq_of_mem_replicate h]
            decide
          · simp only [List.map_cons, List.map_nil, List.mem_singleton] at h
            subst h
            rw [bs_data]
            have h5 := book_five hok (by omega)
            refine Nat.le_trans (spaced_le (fun x hx => ?_)) (by rw [plan_len h5]; omega)
            refine ⟨plan_nonneg (n := 5) h5 x hx, ?_⟩
            obtain ⟨k, hk⟩ := List.getElem?_of_mem hx
            have hkl : k < xs.length := by
              have := (List.getElem?_eq_some_iff.1 hk).1
              rw [plan_len h5] at this
              exact this
            have h1 := (plan_all (n := 5) h5).2 k _ x (List.getElem?_eq_getElem hkl) hk
            have h2 := (taken_bd xs (xs[k]).a (xs[k]).c).2
            omega
        · simp only [List.mem_singleton] at h
          subst h
          exact Nat.le_trans (endL_len 0 0 xs.length (by decide) (by decide) (by omega)) (by decide))
  rw [hll, hlist] at h1
  rw [← e]
  exact h1
end Go.Proofs.YtgjllminidlolaaGreatDoor
