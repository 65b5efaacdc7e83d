/- Lines on coaches and on letters; a script of coaches and one letter. -/
import Derived.Test.YtgjllminidlolaaGreatDoorMAP
import Derived.Test.YtgjllminidlolaaGreatDoorMQPWalkJ
set_option linter.unusedVariables false
namespace Go.Proofs.YtgjllminidlolaaGreatDoor
open Go.RowKit

theorem cmd_coach : cmdOf (bs coachW) = some (-1, 140) := by kernel_rfl
theorem cmd_post : cmdOf (bs postW) = some (4, 142) := by kernel_rfl
theorem cf_coach : ∀ (args : Array Value) (W : World), (callFunc 140 args).run Tryz.prog W = .ok (.enter 140 args) W := fun _ _ => by kernel_rfl
theorem cf_post : ∀ (args : Array Value) (W : World), (callFunc 142 args).run Tryz.prog W = .ok (.enter 142 args) W := fun _ _ => by kernel_rfl
theorem netOk_len {n : Int} {net : List (List T3)} (h : NetOk n net) : NetLen net := fun xs hx => by
  have := (h.2.2.2 xs hx).2.2.2.1
  omega
theorem cutL_short (c : UInt8) (l : List UInt8) : (cutL c l).length ≤ l.length + 1 := by
  have := cutL_size c (bs l)
  rw [bs_size] at this
  exact this
section
variable {w0 : World} {R : Nat} {s : LSt} {l : List UInt8}
theorem line_coach (hE : Env w0) (hok : StOk s) (hl : l.length ≤ 998) {ws : List (List UInt8)} (hc : cutL 32 l = coachW :: ws) (h0 : 0 < ws.length ∧ ws.length % 3 = 0) : LineDoes w0 R s l := by
  have h6 := hok.2.1.2.2.1
  have hws : ws.length ≤ 1000 := by
    have := cutL_short 32 l
    rw [hc, List.length_cons] at this
    omega
  have hc1 : NetOk 6 (s.net ++ [tripL (ws.map numL)]) → cmdC s coachW (ws.map numL) = some ({ s with net := s.net ++ [tripL (ws.map numL)] }, some [okL]) := fun h => by
    unfold cmdC
    rw [if_neg (by decide), if_neg (by decide), if_neg (by decide), if_neg (by decide), if_pos rfl]
    unfold coachC
    rw [if_pos (by rw [List.length_map]; exact h0), if_pos h]
  have hc2 : ¬ NetOk 6 (s.net ++ [tripL (ws.map numL)]) → cmdC s coachW (ws.map numL) = some (s, none) := fun h => by
    unfold cmdC
    rw [if_neg (by decide), if_neg (by decide), if_neg (by decide), if_neg (by decide), if_pos rfl]
    unfold coachC
    rw [if_pos (by rw [List.length_map]; exact h0), if_neg h]
  by_cases h : NetOk 6 (s.net ++ [tripL (ws.map numL)])
  · refine line_of hE (by omega) hc cmd_coach (.inr ⟨by omega, h0⟩) cf_coach (hc1 h) (out := [bs okL]) (ok := true) (.inl ⟨rfl, _, rfl, rfl⟩) (fun W' av' A n c hn ha hst hsl => ?_)
    exact coach_any w0 R s av' A n c _ _ true W' hst ha hsl (by omega) (by omega) (by omega) (netOk_len hok.2.1) (.inl ⟨rfl, h, rfl⟩)
  · refine line_of hE (by omega) hc cmd_coach (.inr ⟨by omega, h0⟩) cf_coach (hc2 h) (out := [bs okL]) (ok := false) (.inr ⟨rfl, rfl⟩) (fun W' av' A n c hn ha hst hsl => ?_)
    exact coach_any w0 R s av' A n c _ _ false W' hst ha hsl (by omega) (by omega) (by omega) (netOk_len hok.2.1) (.inr ⟨rfl, h, rfl⟩)
theorem line_post (hE : Env w0) (hok : StOk s) (hl : l.length ≤ 1000) {x y z u : List UInt8} (hc : cutL 32 l = [postW, x, y, z, u]) : LineDoes w0 R s l := by
  have h6 := hok.2.1.2.2.1
  by_cases h : 0 ≤ postV 6 s.net (numL x) (numL y) (numL z) (numL u)
  · refine line_of hE hl hc cmd_post (.inl rfl) cf_post (s' := s) (o := some [decI (postV 6 s.net (numL x) (numL y) (numL z) (numL u))]) (out := [bs (Lib.itoa (postV 6 s.net (numL x) (numL y) (numL z) (numL u)))]) (ok := true) ?_ (.inl ⟨rfl, _, rfl, by rw [itoa_dec h]; rfl⟩) (fun W' av' A n c hn ha hst hsl => ?_)
    · unfold cmdC
      rw [if_neg (by decide), if_neg (by decide), if_neg (by decide), if_neg (by decide), if_neg (by decide), if_neg (by decide), if_pos rfl]
      show postC s [numL x, numL y, numL z, numL u] = _; unfold postC; dsimp only
      rw [if_pos h]
    · subst hn
      have := post_any w0 hE R s av' A c _ _ _ _ W' hst hsl (by omega) (netOk_len hok.2.1)
      rwa [decide_eq_true h] at this
  · refine line_of hE hl hc cmd_post (.inl rfl) cf_post (s' := s) (o := none) (out := [bs (Lib.itoa (postV 6 s.net (numL x) (numL y) (numL z) (numL u)))]) (ok := false) ?_ (.inr ⟨rfl, rfl⟩) (fun W' av' A n c hn ha hst hsl => ?_)
    · unfold cmdC
      rw [if_neg (by decide), if_neg (by decide), if_neg (by decide), if_neg (by decide), if_neg (by decide), if_neg (by decide), if_pos rfl]
      show postC s [numL x, numL y, numL z, numL u] = _; unfold postC; dsimp only
      rw [if_neg h]
    · subst hn
      have := post_any w0 hE R s av' A c _ _ _ _ W' hst hsl (by omega) (netOk_len hok.2.1)
      rwa [decide_eq_false h] at this
end

/-- A stop in a line. -/
def stopW (p : T3) : List UInt8 := 32 :: (Lib.decDigits p.a.toNat ++ 32 :: (Lib.decDigits p.b.toNat ++ 32 :: Lib.decDigits p.c.toNat))
def lineC (xs : List T3) : List UInt8 := coachW ++ xs.flatMap stopW
def lineP (a b t c : Int) : List UInt8 := postW ++ 32 :: (Lib.decDigits a.toNat ++ 32 :: (Lib.decDigits b.toNat ++ 32 :: (Lib.decDigits t.toNat ++ 32 :: Lib.decDigits c.toNat)))
def digs (p : T3) : List (List UInt8) := [Lib.decDigits p.a.toNat, Lib.decDigits p.b.toNat, Lib.decDigits p.c.toNat]
theorem stops_cut : ∀ (xs : List T3) (w : List UInt8), (32 : UInt8) ∉ w → cutL 32 (w ++ xs.flatMap stopW) = w :: xs.flatMap digs
  | [], w, h => by
    rw [List.flatMap_nil, List.append_nil, cutL_end 32 _ h]
    rfl
  | p :: xs, w, h => by
    have e : w ++ (p :: xs).flatMap stopW = w ++ 32 :: (Lib.decDigits p.a.toNat ++ 32 :: (Lib.decDigits p.b.toNat ++ 32 :: (Lib.decDigits p.c.toNat ++ xs.flatMap stopW))) := by
      rw [List.flatMap_cons, stopW]
      simp
    rw [e, cutL_line 32 _ _ h, cutL_line 32 _ _ (decDigits_mem _ _ rfl), cutL_line 32 _ _ (decDigits_mem _ _ rfl), stops_cut xs _ (decDigits_mem _ _ rfl)]
    rfl
theorem lineC_cut (xs : List T3) : cutL 32 (lineC xs) = coachW :: xs.flatMap digs := stops_cut xs coachW (by decide)
theorem lineP_cut (a b t c : Int) : cutL 32 (lineP a b t c) = [postW, Lib.decDigits a.toNat, Lib.decDigits b.toNat, Lib.decDigits t.toNat, Lib.decDigits c.toNat] := by
  unfold lineP
  rw [cutL_line 32 _ _ (by decide), cutL_line 32 _ _ (decDigits_mem _ _ rfl), cutL_line 32 _ _ (decDigits_mem _ _ rfl), cutL_line 32 _ _ (decDigits_mem _ _ rfl), cutL_end 32 _ (decDigits_mem _ _ rfl)]
theorem digs_len (xs : List T3) : (xs.flatMap digs).length = 3 * xs.length := by
  induction xs with
  | nil => rfl
  | cons p xs ih =>
    rw [List.flatMap_cons, List.length_append, ih, List.length_cons]
    simp only [digs, List.length_cons, List.length_nil]
    omega
theorem trip_digs : ∀ (xs : List T3), (∀ p ∈ xs, (0 ≤ p.a ∧ p.a < 100000) ∧ (0 ≤ p.b ∧ p.b < 100000) ∧ 0 ≤ p.c ∧ p.c < 100000) → tripL ((xs.flatMap digs).map numL) = xs
  | [], _ => rfl
  | p :: xs, h => by
    obtain ⟨h1, h2, h3⟩ := h p (List.mem_cons_self ..)
    have ih := trip_digs xs (fun q hq => h q (List.mem_cons_of_mem _ hq))
    rw [List.flatMap_cons, List.map_append]
    show tripL (numL (Lib.decDigits p.a.toNat) :: numL (Lib.decDigits p.b.toNat) :: numL (Lib.decDigits p.c.toNat) :: (xs.flatMap digs).map numL) = _
    rw [tripL, ih, numL_dec _ (by omega), numL_dec _ (by omega), numL_dec _ (by omega), Int.toNat_of_nonneg h1.1, Int.toNat_of_nonneg h2.1, Int.toNat_of_nonneg h3.1]
theorem lineC_no (xs : List T3) : (10 : UInt8) ∉ lineC xs := by
  unfold lineC
  rw [List.mem_append, not_or]
  refine ⟨by decide, fun h => ?_⟩
  obtain ⟨p, _, hp⟩ := List.mem_flatMap.1 h
  unfold stopW at hp
  simp only [List.mem_append, List.mem_cons] at hp
  rcases hp with h | h | h | h | h | h
  · exact absurd h (by decide)
  · exact decDigits_mem _ _ rfl h
  · exact absurd h (by decide)
  · exact decDigits_mem _ _ rfl h
  · exact absurd h (by decide)
  · exact decDigits_mem _ _ rfl h
theorem lineP_no (a b t c : Int) : (10 : UInt8) ∉ lineP a b t c := by
  unfold lineP
  simp only [List.mem_append, List.mem_cons, not_or]
  exact ⟨by decide, by decide, decDigits_mem _ _ rfl, by decide, decDigits_mem _ _ rfl, by decide, decDigits_mem _ _ rfl, by decide, decDigits_mem _ _ rfl⟩
def postLines (net : List (List T3)) (a b t c : Int) : List (List UInt8) := net.map lineC ++ [lineP a b t c]
theorem postLines_len (net : List (List T3)) (a b t c : Int) : (postLines net a b t c).length = net.length + 1 := by
  unfold postLines
  rw [List.length_append, List.length_map]
  rfl
theorem postLines_coach {net : List (List T3)} {a b t c : Int} {j : Nat} {xs : List T3} (h : net[j]? = some xs) : (postLines net a b t c)[j]? = some (lineC xs) := by
  have hj := (List.getElem?_eq_some_iff.1 h).1
  unfold postLines
  rw [List.getElem?_append_left (by rw [List.length_map]; exact hj), List.getElem?_map, h]
  rfl
theorem postLines_post (net : List (List T3)) (a b t c : Int) : (postLines net a b t c)[net.length]? = some (lineP a b t c) := by
  unfold postLines
  rw [List.getElem?_append_right (by rw [List.length_map]; exact Nat.le_refl _), List.length_map, Nat.sub_self]
  rfl
theorem post_cut (net : List (List T3)) (a b t c : Int) : cutL 10 (textOf (postLines net a b t c)) = postLines net a b t c ++ [[]] := by
  refine cutL_text _ fun l hl => ?_
  rcases List.mem_append.1 hl with h | h
  · obtain ⟨p, _, rfl⟩ := List.mem_map.1 h
    exact lineC_no p
  · rw [List.mem_singleton.1 h]
    exact lineP_no a b t c
theorem net_take {n : Int} {net : List (List T3)} (h : NetOk n net) (j : Nat) : NetOk n (net.take j) :=
  ⟨h.1, h.2.1, by have := h.2.2.1; rw [List.length_take]; omega, fun xs hx => h.2.2.2 xs (List.mem_of_mem_take hx)⟩
theorem stops_nums {xs : List T3} (h : StopsOk 6 xs) : ∀ p ∈ xs, (0 ≤ p.a ∧ p.a < 100000) ∧ (0 ≤ p.b ∧ p.b < 100000) ∧ 0 ≤ p.c ∧ p.c < 100000 := fun p hp => by
  have := h.2.2.2.2.1 p hp
  omega
section
variable {net : List (List T3)} {a b t c : Int}
theorem coach_cmd (hok : NetOk 6 net) {j : Nat} {xs : List T3} (hx : net[j]? = some xs) : cmdC ⟨[], net.take j, []⟩ coachW ((xs.flatMap digs).map numL) = some (⟨[], net.take (j + 1), []⟩, some [okL]) := by
  have hs := hok.2.2.2 xs (List.mem_of_getElem? hx)
  have hl := hs.2.2.1
  unfold cmdC
  rw [if_neg (by decide), if_neg (by decide), if_neg (by decide), if_neg (by decide), if_pos rfl]
  unfold coachC
  rw [if_pos (by rw [List.length_map, digs_len]; omega), trip_digs xs (stops_nums hs)]
  dsimp only
  rw [← take_next hx, if_pos (net_take hok (j + 1))]
theorem post_state (hok : NetOk 6 net) : ∀ j, j ≤ net.length → scrS (postLines net a b t c) j = ⟨[], net.take j, []⟩
  | 0, _ => rfl
  | j + 1, h => by
    obtain ⟨xs, hx⟩ : ∃ xs, net[j]? = some xs := ⟨_, List.getElem?_eq_getElem (by omega)⟩
    rw [scrS_next (postLines_coach hx), post_state hok j (by omega), (ans_of (lineC_cut xs) (coach_cmd hok hx)).1]
    rfl
theorem post_out (hok : NetOk 6 net) {j : Nat} (hj : j < net.length) : scrO (postLines net a b t c) j = [okL] := by
  obtain ⟨xs, hx⟩ : ∃ xs, net[j]? = some xs := ⟨_, List.getElem?_eq_getElem (by omega)⟩
  rw [scrO_at (postLines_coach hx), post_state hok j (by omega), (ans_of (lineC_cut xs) (coach_cmd hok hx)).2]
  rfl
theorem post_told (hok : NetOk 6 net) : ∀ j, j ≤ net.length → scrT (postLines net a b t c) j = List.replicate j okL
  | 0, _ => rfl
  | j + 1, h => by rw [scrT, post_told hok j (by omega), post_out hok (by omega), List.replicate_succ']
theorem post_cmd (hp : 0 ≤ postV 6 net a b t c) : cmdC ⟨[], net, []⟩ postW ([Lib.decDigits a.toNat, Lib.decDigits b.toNat, Lib.decDigits t.toNat, Lib.decDigits c.toNat].map numL) = some (⟨[], net, []⟩, some [decI (postV 6 net a b t c)]) := by
  obtain ⟨⟨hq, h1, h2, h3⟩, h4, -⟩ := postV_pos hp
  unfold cmdC
  rw [if_neg (by decide), if_neg (by decide), if_neg (by decide), if_neg (by decide), if_neg (by decide), if_neg (by decide), if_pos rfl]
  show postC _ [numL _, numL _, numL _, numL _] = _
  rw [numL_dec _ (by omega), numL_dec _ (by omega), numL_dec _ (by omega), numL_dec _ (by omega), Int.toNat_of_nonneg h1.1, Int.toNat_of_nonneg h4.1, Int.toNat_of_nonneg h2.1, Int.toNat_of_nonneg h3.1]
  unfold postC
  dsimp only
  rw [if_pos hp]
theorem post_script (hok : NetOk 6 net) (hp : 0 ≤ postV 6 net a b t c) : scriptOut (postLines net a b t c) = textOf (List.replicate net.length okL) ++ decI (postV 6 net a b t c) ++ [10] ++ (endL 0 net.length 0 ++ [10]) := by
  have h0 : scrS (postLines net a b t c) net.length = ⟨[], net, []⟩ := by rw [post_state hok _ (Nat.le_refl _), List.take_length]
  have q1 := ans_of (lineP_cut a b t c) (post_cmd hp)
  have h1 : scrS (postLines net a b t c) (net.length + 1) = ⟨[], net, []⟩ := by rw [scrS_next (postLines_post net a b t c), h0, q1.1]; rfl
  have h2 : scrO (postLines net a b t c) net.length = [decI (postV 6 net a b t c)] := by rw [scrO_at (postLines_post net a b t c), h0, q1.2]; rfl
  unfold scriptOut
  rw [postLines_len, h1]
  have hT : scrT (postLines net a b t c) (net.length + 1) = List.replicate net.length okL ++ [decI (postV 6 net a b t c)] := by
    rw [scrT, post_told hok _ (Nat.le_refl _), h2]
  rw [hT, textOf_append]
  simp [textOf]
theorem line_in {ls : List (List UInt8)} {l : List UInt8} (h : l ∈ ls) : l.length ≤ (textOf ls).length := by
  obtain ⟨x, y, rfl⟩ := List.append_of_mem h
  rw [show l :: y = [l] ++ y from rfl, textOf_append, textOf_append, List.length_append, List.length_append]
  have : (textOf [l]).length = l.length + 1 := by simp [textOf]
  omega
theorem post_does (hok : NetOk 6 net) (hs : (textOf (postLines net a b t c)).length ≤ 500) (w : World) (hE : Env w) : ∀ (j : Nat) l, (postLines net a b t c)[j]? = some l → ∀ R, LineDoes w R (scrS (postLines net a b t c) j) l := fun j l hl R => by
  have hso := scr_ok (postLines net a b t c) j
  have hll := Nat.le_trans (line_in (List.mem_of_getElem? hl)) hs
  by_cases hj : j < net.length
  · obtain ⟨xs, hx⟩ : ∃ xs, net[j]? = some xs := ⟨_, List.getElem?_eq_getElem hj⟩
    have hxl := (hok.2.2.2 xs (List.mem_of_getElem? hx)).2.2.1
    rw [postLines_coach hx] at hl
    injection hl with hl
    subst hl
    exact line_coach hE hso (by omega) (lineC_cut xs) (by rw [digs_len]; omega)
  · have hjl := (List.getElem?_eq_some_iff.1 hl).1
    rw [postLines_len] at hjl
    obtain rfl : j = net.length := by omega
    rw [postLines_post] at hl
    injection hl with hl
    subst hl
    exact line_post hE hso (by omega) (lineP_cut a b t c)
theorem post_execute (hok : NetOk 6 net) (hp : 0 ≤ postV 6 net a b t c) (hs : (textOf (postLines net a b t c)).length ≤ 500) (w : World) (hE : Env w) :
    Calls Tryz.prog 11 #[.string (bs (textOf (postLines net a b t c)))] w (Only (.string (bs (textOf (List.replicate net.length okL) ++ decI (postV 6 net a b t c) ++ [10] ++ (endL 0 net.length 0 ++ [10])))) w) := by
  rw [← post_script hok hp]
  exact execute_script _ _ [] w hE (by rw [bs_size]; exact hs) (post_cut net a b t c) (post_does hok hs w hE)
end
theorem net_six {n : Int} {net : List (List T3)} (h : NetOk n net) (hn : n ≤ 6) : NetOk 6 net :=
  ⟨by omega, by omega, h.2.2.1, fun xs hx => by
    obtain ⟨h1, h2, h3, h4, h5, h6⟩ := h.2.2.2 xs hx
    exact ⟨by omega, by omega, h3, h4, fun p hp => by have := h5 p hp; omega, h6⟩⟩
theorem postV_six {n : Int} {net : List (List T3)} {a b t c : Int} (h : 0 ≤ postV n net a b t c) (hn : n ≤ 6) : postV 6 net a b t c = postV n net a b t c := by
  obtain ⟨⟨hq, h1, h2, h3⟩, h4, h5⟩ := postV_pos h
  rw [h5]
  exact postV_yes ⟨net_six hq hn, by omega, h2, h3⟩ (by omega)
end Go.Proofs.YtgjllminidlolaaGreatDoor
