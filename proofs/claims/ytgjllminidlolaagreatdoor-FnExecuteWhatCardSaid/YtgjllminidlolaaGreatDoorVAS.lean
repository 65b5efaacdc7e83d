/- Texts of mine in one: EPostP KWalkA KWalkB KWalkC QWalkA. -/
import Derived.Test.YtgjllminidlolaaGreatDoorVAO
import Derived.Test.YtgjllminidlolaaGreatDoorVAR
import Derived.Test.YtgjllminidlolaaGreatDoorVAL
import Derived.Test.YtgjllminidlolaaGreatDoorVAA
import Derived.Test.YtgjllminidlolaaGreatDoorVAP
import Derived.Laws.BytesArg
import Derived.Deep.RegionWith
import Derived.Deep.QuietTactic
import Derived.BigQuiet
import Derived.Deep.RegionHeld3
import Derived.Test.YtgjllminidlolaaGreatDoorVAD
import Derived.Laws.DeepStrings4
/- Lines on coaches and on letters; a script of coaches and one letter. -/
set_option linter.unusedVariables false
namespace Go.Proofs.YtgjllminidlolaaGreatDoor
open Go.RowKit

theorem cmd_coach : cmdOf (bs coachW) = some (-1, 140) := by kernel_rfl
theorem cmd_post : cmdOf (bs postW) = some (4, 142) := by kernel_rfl
theorem cf_coach : ∀ (args : Array Value) (W : World), (callFunc 140 args).run Tryz.prog W = .ok (.enter 140 args) W := fun _ _ => by kernel_rfl
theorem cf_post : ∀ (args : Array Value) (W : World), (callFunc 142 args).run Tryz.prog W = .ok (.enter 142 args) W := fun _ _ => by kernel_rfl
theorem netOk_len {n : Int} {net : List (List T3)} (h : NetOk n net) : NetLen net := fun xs hx => by
  have := (h.2.2.2 xs hx).2.2.2.1
  omega
theorem cutL_short (c : UInt8) (l : List UInt8) : (cutL c l).length ≤ l.length + 1 := by
  have := cutL_size c (bs l)
  rw [bs_size] at this
  exact this
section
variable {w0 : World} {R : Nat} {s : LSt} {l : List UInt8}
theorem line_coach (hE : Env w0) (hok : StOk s) (hl : l.length ≤ 998) {ws : List (List UInt8)} (hc : cutL 32 l = coachW :: ws) (h0 : 0 < ws.length ∧ ws.length % 3 = 0) : LineDoes w0 R s l := by
  have h6 := hok.2.1.2.2.1
  have hws : ws.length ≤ 1000 := by
    have := cutL_short 32 l
    rw [hc, List.length_cons] at this
    omega
  have hc1 : NetOk 6 (s.net ++ [tripL (ws.map numL)]) → cmdC s coachW (ws.map numL) = some ({ s with net := s.net ++ [tripL (ws.map numL)] }, some [okL]) := fun h => by
    unfold cmdC
    rw [if_neg (by decide), if_neg (by decide), if_neg (by decide), if_neg (by decide), if_pos rfl]
    unfold coachC
    rw [if_pos (by rw [List.length_map]; exact h0), if_pos h]
  have hc2 : ¬ NetOk 6 (s.net ++ [tripL (ws.map numL)]) → cmdC s coachW (ws.map numL) = some (s, none) := fun h => by
    unfold cmdC
    rw [if_neg (by decide), if_neg (by decide), if_neg (by decide), if_neg (by decide), if_pos rfl]
    unfold coachC
    rw [if_pos (by rw [List.length_map]; exact h0), if_neg h]
  by_cases h : NetOk 6 (s.net ++ [tripL (ws.map numL)])
  · refine line_of hE (by omega) hc cmd_coach (.inr ⟨by omega, h0⟩) cf_coach (hc1 h) (out := [bs okL]) (ok := true) (.inl ⟨rfl, _, rfl, rfl⟩) (fun W' av' A n c hn ha hst hsl => ?_)
    exact coach_any w0 R s av' A n c _ _ true W' hst ha hsl (by omega) (by omega) (by omega) (netOk_len hok.2.1) (.inl ⟨rfl, h, rfl⟩)
  · refine line_of hE (by omega) hc cmd_coach (.inr ⟨by omega, h0⟩) cf_coach (hc2 h) (out := [bs okL]) (ok := false) (.inr ⟨rfl, rfl⟩) (fun W' av' A n c hn ha hst hsl => ?_)
    exact coach_any w0 R s av' A n c _ _ false W' hst ha hsl (by omega) (by omega) (by omega) (netOk_len hok.2.1) (.inr ⟨rfl, h, rfl⟩)
theorem line_post (hE : Env w0) (hok : StOk s) (hl : l.length ≤ 1000) {x y z u : List UInt8} (hc : cutL 32 l = [postW, x, y, z, u]) : LineDoes w0 R s l := by
  have h6 := hok.2.1.2.2.1
  by_cases h : 0 ≤ postV 6 s.net (numL x) (numL y) (numL z) (numL u)
  · refine line_of hE hl hc cmd_post (.inl rfl) cf_post (s' := s) (o := some [decI (postV 6 s.net (numL x) (numL y) (numL z) (numL u))]) (out := [bs (Lib.itoa (postV 6 s.net (numL x) (numL y) (numL z) (numL u)))]) (ok := true) ?_ (.inl ⟨rfl, _, rfl, by rw [itoa_dec h]; rfl⟩) (fun W' av' A n c hn ha hst hsl => ?_)
    · unfold cmdC
      rw [if_neg (by decide), if_neg (by decide), if_neg (by decide), if_neg (by decide), if_neg (by decide), if_neg (by decide), if_pos rfl]
      show postC s [numL x, numL y, numL z, numL u] = _; unfold postC; dsimp only
      rw [if_pos h]
    · subst hn
      have := post_any w0 hE R s av' A c _ _ _ _ W' hst hsl (by omega) (netOk_len hok.2.1)
      rwa [decide_eq_true h] at this
  · refine line_of hE hl hc cmd_post (.inl rfl) cf_post (s' := s) (o := none) (out := [bs (Lib.itoa (postV 6 s.net (numL x) (numL y) (numL z) (numL u)))]) (ok := false) ?_ (.inr ⟨rfl, rfl⟩) (fun W' av' A n c hn ha hst hsl => ?_)
    · unfold cmdC
      rw [if_neg (by decide), if_neg (by decide), if_neg (by decide), if_neg (by decide), if_neg (by decide), if_neg (by decide), if_pos rfl]
      show postC s [numL x, numL y, numL z, numL u] = _; unfold postC; dsimp only
      rw [if_neg h]
    · subst hn
      have := post_any w0 hE R s av' A c _ _ _ _ W' hst hsl (by omega) (netOk_len hok.2.1)
      rwa [decide_eq_false h] at this
end

/-- A stop in a line. -/
def stopW (p : T3) : List UInt8 := 32 :: (Lib.decDigits p.a.toNat ++ 32 :: (Lib.decDigits p.b.toNat ++ 32 :: Lib.decDigits p.c.toNat))
def lineC (xs : List T3) : List UInt8 := coachW ++ xs.flatMap stopW
def lineP (a b t c : Int) : List UInt8 := postW ++ 32 :: (Lib.decDigits a.toNat ++ 32 :: (Lib.decDigits b.toNat ++ 32 :: (Lib.decDigits t.toNat ++ 32 :: Lib.decDigits c.toNat)))
def digs (p : T3) : List (List UInt8) := [Lib.decDigits p.a.toNat, Lib.decDigits p.b.toNat, Lib.decDigits p.c.toNat]
theorem stops_cut : ∀ (xs : List T3) (w : List UInt8), (32 : UInt8) ∉ w → cutL 32 (w ++ xs.flatMap stopW) = w :: xs.flatMap digs
  | [], w, h => by
    rw [List.flatMap_nil, List.append_nil, cutL_end 32 _ h]
    rfl
  | p :: xs, w, h => by
    have e : w ++ (p :: xs).flatMap stopW = w ++ 32 :: (Lib.decDigits p.a.toNat ++ 32 :: (Lib.decDigits p.b.toNat ++ 32 :: (Lib.decDigits p.c.toNat ++ xs.flatMap stopW))) := by
      rw [List.flatMap_cons, stopW]
      simp
    rw [e, cutL_line 32 _ _ h, cutL_line 32 _ _ (decDigits_mem _ _ rfl), cutL_line 32 _ _ (decDigits_mem _ _ rfl), stops_cut xs _ (decDigits_mem _ _ rfl)]
    rfl
theorem lineC_cut (xs : List T3) : cutL 32 (lineC xs) = coachW :: xs.flatMap digs := stops_cut xs coachW (by decide)
theorem lineP_cut (a b t c : Int) : cutL 32 (lineP a b t c) = [postW, Lib.decDigits a.toNat, Lib.decDigits b.toNat, Lib.decDigits t.toNat, Lib.decDigits c.toNat] := by
  unfold lineP
  rw [cutL_line 32 _ _ (by decide), cutL_line 32 _ _ (decDigits_mem _ _ rfl), cutL_line 32 _ _ (decDigits_mem _ _ rfl), cutL_line 32 _ _ (decDigits_mem _ _ rfl), cutL_end 32 _ (decDigits_mem _ _ rfl)]
theorem digs_len (xs : List T3) : (xs.flatMap digs).length = 3 * xs.length := by
  induction xs with
  | nil => rfl
  | cons p xs ih =>
    rw [List.flatMap_cons, List.length_append, ih, List.length_cons]
    simp only [digs, List.length_cons, List.length_nil]
    omega
theorem trip_digs : ∀ (xs : List T3), (∀ p ∈ xs, (0 ≤ p.a ∧ p.a < 100000) ∧ (0 ≤ p.b ∧ p.b < 100000) ∧ 0 ≤ p.c ∧ p.c < 100000) → tripL ((xs.flatMap digs).map numL) = xs
  | [], _ => rfl
  | p :: xs, h => by
    obtain ⟨h1, h2, h3⟩ := h p (List.mem_cons_self ..)
    have ih := trip_digs xs (fun q hq => h q (List.mem_cons_of_mem _ hq))
    rw [List.flatMap_cons, List.map_append]
    show tripL (numL (Lib.decDigits p.a.toNat) :: numL (Lib.decDigits p.b.toNat) :: numL (Lib.decDigits p.c.toNat) :: (xs.flatMap digs).map numL) = _
    rw [tripL, ih, numL_dec _ (by omega), numL_dec _ (by omega), numL_dec _ (by omega), Int.toNat_of_nonneg h1.1, Int.toNat_of_nonneg h2.1, Int.toNat_of_nonneg h3.1]
theorem lineC_no (xs : List T3) : (10 : UInt8) ∉ lineC xs := by
  unfold lineC
  rw [List.mem_append, not_or]
  refine ⟨by decide, fun h => ?_⟩
  obtain ⟨p, _, hp⟩ := List.mem_flatMap.1 h
  unfold stopW at hp
  simp only [List.mem_append, List.mem_cons] at hp
  rcases hp with h | h | h | h | h | h
  · exact absurd h (by decide)
  · exact decDigits_mem _ _ rfl h
  · exact absurd h (by decide)
  · exact decDigits_mem _ _ rfl h
  · exact absurd h (by decide)
  · exact decDigits_mem _ _ rfl h
theorem lineP_no (a b t c : Int) : (10 : UInt8) ∉ lineP a b t c := by
  unfold lineP
  simp only [List.mem_append, List.mem_cons, not_or]
  exact ⟨by decide, by decide, decDigits_mem _ _ rfl, by decide, decDigits_mem _ _ rfl, by decide, decDigits_mem _ _ rfl, by decide, decDigits_mem _ _ rfl⟩
def postLines (net : List (List T3)) (a b t c : Int) : List (List UInt8) := net.map lineC ++ [lineP a b t c]
theorem postLines_len (net : List (List T3)) (a b t c : Int) : (postLines net a b t c).length = net.length + 1 := by
  unfold postLines
  rw [List.length_append, List.length_map]
  rfl
theorem postLines_coach {net : List (List T3)} {a b t c : Int} {j : Nat} {xs : List T3} (h : net[j]? = some xs) : (postLines net a b t c)[j]? = some (lineC xs) := by
  have hj := (List.getElem?_eq_some_iff.1 h).1
  unfold postLines
  rw [List.getElem?_append_left (by rw [List.length_map]; exact hj), List.getElem?_map, h]
  rfl
theorem postLines_post (net : List (List T3)) (a b t c : Int) : (postLines net a b t c)[net.length]? = some (lineP a b t c) := by
  unfold postLines
  rw [List.getElem?_append_right (by rw [List.length_map]; exact Nat.le_refl _), List.length_map, Nat.sub_self]
  rfl
theorem post_cut (net : List (List T3)) (a b t c : Int) : cutL 10 (textOf (postLines net a b t c)) = postLines net a b t c ++ [[]] := by
  refine cutL_text _ fun l hl => ?_
  rcases List.mem_append.1 hl with h | h
  · obtain ⟨p, _, rfl⟩ := List.mem_map.1 h
    exact lineC_no p
  · rw [List.mem_singleton.1 h]
    exact lineP_no a b t c
theorem net_take {n : Int} {net : List (List T3)} (h : NetOk n net) (j : Nat) : NetOk n (net.take j) :=
  ⟨h.1, h.2.1, by have := h.2.2.1; rw [List.length_take]; omega, fun xs hx => h.2.2.2 xs (List.mem_of_mem_take hx)⟩
theorem stops_nums {xs : List T3} (h : StopsOk 6 xs) : ∀ p ∈ xs, (0 ≤ p.a ∧ p.a < 100000) ∧ (0 ≤ p.b ∧ p.b < 100000) ∧ 0 ≤ p.c ∧ p.c < 100000 := fun p hp => by
  have := h.2.2.2.2.1 p hp
  omega
section
variable {net : List (List T3)} {a b t c : Int}
theorem coach_cmd (hok : NetOk 6 net) {j : Nat} {xs : List T3} (hx : net[j]? = some xs) : cmdC ⟨[], net.take j, []⟩ coachW ((xs.flatMap digs).map numL) = some (⟨[], net.take (j + 1), []⟩, some [okL]) := by
  have hs := hok.2.2.2 xs (List.mem_of_getElem? hx)
  have hl := hs.2.2.1
  unfold cmdC
  rw [if_neg (by decide), if_neg (by decide), if_neg (by decide), if_neg (by decide), if_pos rfl]
  unfold coachC
  rw [if_pos (by rw [List.length_map, digs_len]; omega), trip_digs xs (stops_nums hs)]
  dsimp only
  rw [← take_next hx, if_pos (net_take hok (j + 1))]
theorem post_state (hok : NetOk 6 net) : ∀ j, j ≤ net.length → scrS (postLines net a b t c) j = ⟨[], net.take j, []⟩
  | 0, _ => rfl
  | j + 1, h => by
    obtain ⟨xs, hx⟩ : ∃ xs, net[j]? = some xs := ⟨_, List.getElem?_eq_getElem (by omega)⟩
    rw [scrS_next (postLines_coach hx), post_state hok j (by omega), (ans_of (lineC_cut xs) (coach_cmd hok hx)).1]
    rfl
theorem post_out (hok : NetOk 6 net) {j : Nat} (hj : j < net.length) : scrO (postLines net a b t c) j = [okL] := by
  obtain ⟨xs, hx⟩ : ∃ xs, net[j]? = some xs := ⟨_, List.getElem?_eq_getElem (by omega)⟩
  rw [scrO_at (postLines_coach hx), post_state hok j (by omega), (ans_of (lineC_cut xs) (coach_cmd hok hx)).2]
  rfl
theorem post_told (hok : NetOk 6 net) : ∀ j, j ≤ net.length → scrT (postLines net a b t c) j = List.replicate j okL
  | 0, _ => rfl
  | j + 1, h => by rw [scrT, post_told hok j (by omega), post_out hok (by omega), List.replicate_succ']
theorem post_cmd (hp : 0 ≤ postV 6 net a b t c) : cmdC ⟨[], net, []⟩ postW ([Lib.decDigits a.toNat, Lib.decDigits b.toNat, Lib.decDigits t.toNat, Lib.decDigits c.toNat].map numL) = some (⟨[], net, []⟩, some [decI (postV 6 net a b t c)]) := by
  obtain ⟨⟨hq, h1, h2, h3⟩, h4, -⟩ := postV_pos hp
  unfold cmdC
  rw [if_neg (by decide), if_neg (by decide), if_neg (by decide), if_neg (by decide), if_neg (by decide), if_neg (by decide), if_pos rfl]
  show postC _ [numL _, numL _, numL _, numL _] = _
  rw [numL_dec _ (by omega), numL_dec _ (by omega), numL_dec _ (by omega), numL_dec _ (by omega), Int.toNat_of_nonneg h1.1, Int.toNat_of_nonneg h4.1, Int.toNat_of_nonneg h2.1, Int.toNat_of_nonneg h3.1]
  unfold postC
  dsimp only
  rw [if_pos hp]
theorem post_script (hok : NetOk 6 net) (hp : 0 ≤ postV 6 net a b t c) : scriptOut (postLines net a b t c) = textOf (List.replicate net.length okL) ++ decI (postV 6 net a b t c) ++ [10] ++ (endL 0 net.length 0 ++ [10]) := by
  have h0 : scrS (postLines net a b t c) net.length = ⟨[], net, []⟩ := by rw [post_state hok _ (Nat.le_refl _), List.take_length]
  have q1 := ans_of (lineP_cut a b t c) (post_cmd hp)
  have h1 : scrS (postLines net a b t c) (net.length + 1) = ⟨[], net, []⟩ := by rw [scrS_next (postLines_post net a b t c), h0, q1.1]; rfl
  have h2 : scrO (postLines net a b t c) net.length = [decI (postV 6 net a b t c)] := by rw [scrO_at (postLines_post net a b t c), h0, q1.2]; rfl
  unfold scriptOut
  rw [postLines_len, h1]
  have hT : scrT (postLines net a b t c) (net.length + 1) = List.replicate net.length okL ++ [decI (postV 6 net a b t c)] := by
    rw [scrT, post_told hok _ (Nat.le_refl _), h2]
  rw [hT, textOf_append]
  simp [textOf]
theorem line_in {ls : List (List UInt8)} {l : List UInt8} (h : l ∈ ls) : l.length ≤ (textOf ls).length := by
  obtain ⟨x, y, rfl⟩ := List.append_of_mem h
  rw [show l :: y = [l] ++ y from rfl, textOf_append, textOf_append, List.length_append, List.length_append]
  have : (textOf [l]).length = l.length + 1 := by simp [textOf]
  omega
theorem post_does (hok : NetOk 6 net) (hs : (textOf (postLines net a b t c)).length ≤ 500) (w : World) (hE : Env w) : ∀ (j : Nat) l, (postLines net a b t c)[j]? = some l → ∀ R, LineDoes w R (scrS (postLines net a b t c) j) l := fun j l hl R => by
  have hso := scr_ok (postLines net a b t c) j
  have hll := Nat.le_trans (line_in (List.mem_of_getElem? hl)) hs
  by_cases hj : j < net.length
  · obtain ⟨xs, hx⟩ : ∃ xs, net[j]? = some xs := ⟨_, List.getElem?_eq_getElem hj⟩
    have hxl := (hok.2.2.2 xs (List.mem_of_getElem? hx)).2.2.1
    rw [postLines_coach hx] at hl
    injection hl with hl
    subst hl
    exact line_coach hE hso (by omega) (lineC_cut xs) (by rw [digs_len]; omega)
  · have hjl := (List.getElem?_eq_some_iff.1 hl).1
    rw [postLines_len] at hjl
    obtain rfl : j = net.length := by omega
    rw [postLines_post] at hl
    injection hl with hl
    subst hl
    exact line_post hE hso (by omega) (lineP_cut a b t c)
theorem post_execute (hok : NetOk 6 net) (hp : 0 ≤ postV 6 net a b t c) (hs : (textOf (postLines net a b t c)).length ≤ 500) (w : World) (hE : Env w) :
    Calls Tryz.prog 11 #[.string (bs (textOf (postLines net a b t c)))] w (Only (.string (bs (textOf (List.replicate net.length okL) ++ decI (postV 6 net a b t c) ++ [10] ++ (endL 0 net.length 0 ++ [10])))) w) := by
  rw [← post_script hok hp]
  exact execute_script _ _ [] w hE (by rw [bs_size]; exact hs) (post_cut net a b t c) (post_does hok hs w hE)
end
theorem net_six {n : Int} {net : List (List T3)} (h : NetOk n net) (hn : n ≤ 6) : NetOk 6 net :=
  ⟨by omega, by omega, h.2.2.1, fun xs hx => by
    obtain ⟨h1, h2, h3, h4, h5, h6⟩ := h.2.2.2 xs hx
    exact ⟨by omega, by omega, h3, h4, fun p hp => by have := h5 p hp; omega, h6⟩⟩
theorem postV_six {n : Int} {net : List (List T3)} {a b t c : Int} (h : 0 ≤ postV n net a b t c) (hn : n ≤ 6) : postV 6 net a b t c = postV n net a b t c := by
  obtain ⟨⟨hq, h1, h2, h3⟩, h4, h5⟩ := postV_pos h
  rw [h5]
  exact postV_yes ⟨net_six hq hn, by omega, h2, h3⟩ (by omega)
end Go.Proofs.YtgjllminidlolaaGreatDoor
/- Contracts: digits of the reference; clock texts of both. -/
set_option linter.unusedVariables false
namespace Go.Proofs.YtgjllminidlolaaGreatDoor
open Go.RowKit

set_option maxRecDepth 20000 in
set_option maxHeartbeats 1600000 in
theorem l6Dec_any : ∀ (n : Nat) (w : World), n < 1000000000000 →
    Calls Tryz.prog 41 #[.int .i64 n] w (Only (.string (bs (Lib.decDigits n))) w) := by
  intro n
  induction n using Nat.strongRecOn with
  | _ n ih =>
    intro w hn
    have i7 : ¬ (n : Int) < -9223372036854775807 := by omega
    have i8 : ¬ (n : Int) < 0 := by omega
    by_cases h : n < 10
    · have hconv : (convert 22 9 (.slice (some ⟨w.heap.size, 0, none⟩) 1 1)).run Tryz.prog (w.alloc (.cells #[.int .u8 (48 + (n : Int))] 5)) = .ok (.string (bs (Lib.decDigits n))) (w.alloc (.cells #[.int .u8 (48 + (n : Int))] 5)) := by
        rw [dec_small h, ← digit_byte n h]
        exact conv_byte (by simp)
      have i0 : (n : Int) < 10 := by omega
      have HB := Lib.hid (below_alloc (Below.refl w.heap.size w) (.cells #[.int .u8 (48 + (n : Int))] 5))
      clear ih
      generalize bs (Lib.decDigits n) = T at *
      go_enter Tryz.func41, Tryz.ntmps41
      go_wp2_with fail
      go_ret
      exact ⟨rfl, HB.out⟩
    · have i0 : ¬ (n : Int) < 10 := by omega
      obtain ⟨q, hq⟩ : ∃ q, n / 10 = q := ⟨_, rfl⟩
      obtain ⟨r, hr⟩ : ∃ r, n % 10 = r := ⟨_, rfl⟩
      have hr10 : r < 10 := by omega
      have q1 : (n : Int) / 10 = (q : Int) := by omega
      have r1 : (n : Int) % 10 = (r : Int) := by omega
      have q2 : Int.tdiv (n : Int) 10 = (q : Int) := by rw [Int.tdiv_eq_ediv_of_nonneg (by omega)]; exact q1
      have r2 : Int.tmod (n : Int) 10 = (r : Int) := by rw [Int.tmod_eq_emod_of_nonneg (by omega)]; exact r1
      have wr1 : IntKind.i64.wrap (q : Int) = (q : Int) := IntWalk.i64_in _ (by omega)
      have wr2 : IntKind.i64.wrap (48 + (r : Int)) = 48 + (r : Int) := IntWalk.i64_in _ (by omega)
      have wr3 : IntKind.u8.wrap (48 + (r : Int)) = 48 + (r : Int) := IntWalk.u8_in _ (by omega)
      have IH := Lib.hid (fun W => ih q (by omega) W (by omega))
      have hl := decDigits_len 12 q (by omega) (by omega)
      have hconv : ∀ (W : World) (b : Nat), W.cell? ⟨b, 0, none⟩ = some (.int .u8 (48 + (r : Int))) → (convert 22 9 (.slice (some ⟨b, 0, none⟩) 1 1)).run Tryz.prog W = .ok (.string (bs [UInt8.ofNat (48 + r)])) W := fun W b hc => by
        rw [← digit_byte r hr10]
        exact conv_byte hc
      have hadd : ∀ W, (Op.stringOp .add (bs (Lib.decDigits q)) (bs [UInt8.ofNat (48 + r)])).run Tryz.prog W = .ok (.string (bs (Lib.decDigits n))) W := fun W => by
        rw [dec_large h, hq, hr]
        exact add_lists _ _ (by omega) (by simp) W
      clear ih hq hr
      generalize bs (Lib.decDigits n) = T at *
      generalize bs (Lib.decDigits q) = TQ at *
      generalize bs [UInt8.ofNat (48 + r)] = TR at *
      go_enter Tryz.func41, Tryz.ntmps41
      go_wp2_with fail
      have HCW := Lib.hid (show (w.alloc (.cells #[.int .u8 (48 + (r : Int))] 5)).drew.cell? ⟨w.heap.size, 0, none⟩ = some (.int .u8 (48 + (r : Int))) by simp)
      have HB0 := Lib.hid (below_drew (below_alloc (Below.refl w.heap.size w) (.cells #[.int .u8 (48 + (r : Int))] 5)))
      have HB1 := Lib.hid (below_drew (Below.refl w.heap.size w))
      go_region_with (first
        | (go_at_call 41; (with_reducible_and_instances refine (IH.out (w.alloc (.cells #[.int .u8 (48 + (r : Int))] 5)).drew).mono ?_); rintro e w2 ⟨rfl, hb2⟩; have HB2 := Lib.hid (below_trans HB0.out hb2); have hc2 := cell_below hb2 HCW.out; clear hb2)
        | (go_at_call 41; (with_reducible_and_instances refine (IH.out w.drew).mono ?_); rintro e w2 ⟨rfl, hb2⟩; have HB2 := Lib.hid (below_alloc (below_trans HB1.out hb2) (.cells #[.int .u8 (48 + (r : Int))] 5)); clear hb2))
      all_goals (go_wp2_with fail; go_ret; exact ⟨rfl, HB2.out⟩)
theorem two_dec {n : Nat} (h : n < 100) : Lib.decDigits (n / 10) ++ Lib.decDigits (n % 10) = [UInt8.ofNat (48 + n / 10), UInt8.ofNat (48 + n % 10)] := by
  rw [dec_small (by omega), dec_small (by omega)]
  rfl
set_option maxRecDepth 20000 in
set_option maxHeartbeats 800000 in
theorem l2Two_any (n : Nat) (w : World) (h : n < 100) :
    Calls Tryz.prog 217 #[.int .i64 n] w (Only (.string (bs [UInt8.ofNat (48 + n / 10), UInt8.ofNat (48 + n % 10)])) w) := by
  obtain ⟨q, hq⟩ : ∃ q, n / 10 = q := ⟨_, rfl⟩
  obtain ⟨r, hr⟩ : ∃ r, n % 10 = r := ⟨_, rfl⟩
  have q2 : Int.tdiv (n : Int) 10 = (q : Int) := by rw [Int.tdiv_eq_ediv_of_nonneg (by omega)]; omega
  have r2 : Int.tmod (n : Int) 10 = (r : Int) := by rw [Int.tmod_eq_emod_of_nonneg (by omega)]; omega
  have q1 : (n : Int) / 10 = (q : Int) := by omega
  have r1 : (n : Int) % 10 = (r : Int) := by omega
  have wr1 : IntKind.i64.wrap (q : Int) = (q : Int) := IntWalk.i64_in _ (by omega)
  have HQ := Lib.hid (fun W => l6Dec_any q W (by omega))
  have HR := Lib.hid (fun W => l6Dec_any r W (by omega))
  have hadd : ∀ W, (Op.stringOp .add (bs (Lib.decDigits q)) (bs (Lib.decDigits r))).run Tryz.prog W = .ok (.string (bs [UInt8.ofNat (48 + q), UInt8.ofNat (48 + r)])) W := fun W => by
    have e := two_dec h
    rw [hq, hr] at e
    rw [← e]
    have h1 := decDigits_len 1 q (by omega) (by omega)
    have h2 := decDigits_len 1 r (by omega) (by omega)
    exact add_lists _ _ (Nat.le_trans h1 (by decide)) (Nat.le_trans h2 (by decide)) W
  rw [hq, hr]
  clear hq hr
  generalize bs [UInt8.ofNat (48 + q), UInt8.ofNat (48 + r)] = T at *
  generalize bs (Lib.decDigits q) = TQ at *
  generalize bs (Lib.decDigits r) = TR at *
  go_enter Tryz.func217, Tryz.ntmps217
  go_wp2_with fail
  refine (HQ.out _).mono ?_
  rintro e w2 ⟨rfl, hb2⟩
  have HB2 := Lib.hid hb2
  clear hb2
  go_wp2_with fail
  refine (HR.out _).mono ?_
  rintro e w3 ⟨rfl, hb3⟩
  have HB3 := Lib.hid (below_trans HB2.out hb3)
  clear hb3
  go_wp2_with fail
  go_ret
  exact ⟨rfl, HB3.out⟩
theorem clockL_nat (t : Nat) : clockL (t : Int) = [UInt8.ofNat (48 + t % 1440 / 60 / 10), UInt8.ofNat (48 + t % 1440 / 60 % 10), 46, UInt8.ofNat (48 + t % 1440 % 60 / 10), UInt8.ofNat (48 + t % 1440 % 60 % 10)] := by
  unfold clockL digU
  have e1 : ((t : Int) % 1440 / 60 / 10).toNat = t % 1440 / 60 / 10 := by omega
  have e2 : ((t : Int) % 1440 / 60 % 10).toNat = t % 1440 / 60 % 10 := by omega
  have e3 : ((t : Int) % 1440 % 60 / 10).toNat = t % 1440 % 60 / 10 := by omega
  have e4 : ((t : Int) % 1440 % 60 % 10).toNat = t % 1440 % 60 % 10 := by omega
  rw [e1, e2, e3, e4]
end Go.Proofs.YtgjllminidlolaaGreatDoor
/- Contracts: clock texts of both. -/
set_option linter.unusedVariables false
namespace Go.Proofs.YtgjllminidlolaaGreatDoor
open Go.RowKit

set_option maxRecDepth 20000 in
set_option maxHeartbeats 1600000 in
theorem specClock_any (t : Nat) (w : World) (h : t ≤ 10000) :
    Calls Tryz.prog 189 #[.int .i64 t] w (Only (.string (bs (clockL t))) w) := by
  rw [clockL_nat]
  obtain ⟨m, hm⟩ : ∃ m, t % 1440 = m := ⟨_, rfl⟩
  rw [hm]
  obtain ⟨q, hq⟩ : ∃ q, m / 60 = q := ⟨_, rfl⟩
  obtain ⟨r, hr⟩ : ∃ r, m % 60 = r := ⟨_, rfl⟩
  have m2 : Int.tmod (t : Int) 1440 = (m : Int) := by rw [Int.tmod_eq_emod_of_nonneg (by omega)]; omega
  have m1 : (t : Int) % 1440 = (m : Int) := by omega
  have q2 : Int.tdiv (m : Int) 60 = (q : Int) := by rw [Int.tdiv_eq_ediv_of_nonneg (by omega)]; omega
  have q1 : (m : Int) / 60 = (q : Int) := by omega
  have r2 : Int.tmod (m : Int) 60 = (r : Int) := by rw [Int.tmod_eq_emod_of_nonneg (by omega)]; omega
  have r1 : (m : Int) % 60 = (r : Int) := by omega
  have wr1 : IntKind.i64.wrap (q : Int) = (q : Int) := IntWalk.i64_in _ (by omega)
  have HQ := Lib.hid (fun W => l2Two_any q W (by omega))
  have HR := Lib.hid (fun W => l2Two_any r W (by omega))
  have ht : (0 : Int) ≤ (t : Int) ∧ (t : Int) ≤ 10000 := by omega
  have HT := Lib.hid ht
  have ad1 : ∀ W, (Op.stringOp .add (bs [UInt8.ofNat (48 + q / 10), UInt8.ofNat (48 + q % 10)]) ⟨#[46]⟩).run Tryz.prog W = .ok (.string (bs ([UInt8.ofNat (48 + q / 10), UInt8.ofNat (48 + q % 10)] ++ [46]))) W := fun W => add_lists [UInt8.ofNat (48 + q / 10), UInt8.ofNat (48 + q % 10)] [46] (by simp) (by simp) W
  have ad2 : ∀ W, (Op.stringOp .add (bs ([UInt8.ofNat (48 + q / 10), UInt8.ofNat (48 + q % 10)] ++ [46])) (bs [UInt8.ofNat (48 + r / 10), UInt8.ofNat (48 + r % 10)])).run Tryz.prog W = .ok (.string (bs [UInt8.ofNat (48 + q / 10), UInt8.ofNat (48 + q % 10), 46, UInt8.ofNat (48 + r / 10), UInt8.ofNat (48 + r % 10)])) W := fun W => add_lists ([UInt8.ofNat (48 + q / 10), UInt8.ofNat (48 + q % 10)] ++ [46]) [UInt8.ofNat (48 + r / 10), UInt8.ofNat (48 + r % 10)] (by simp) (by simp) W
  rw [hq, hr]
  clear hq hr hm ht
  generalize bs [UInt8.ofNat (48 + q / 10), UInt8.ofNat (48 + q % 10), 46, UInt8.ofNat (48 + r / 10), UInt8.ofNat (48 + r % 10)] = T at *
  generalize bs ([UInt8.ofNat (48 + q / 10), UInt8.ofNat (48 + q % 10)] ++ [46]) = T1 at *
  generalize bs [UInt8.ofNat (48 + q / 10), UInt8.ofNat (48 + q % 10)] = TQ at *
  generalize bs [UInt8.ofNat (48 + r / 10), UInt8.ofNat (48 + r % 10)] = TR at *
  go_enter Tryz.func189, Tryz.ntmps189
  go_wp2_with (go_at_call 62; refine (l6In_any _ _ _ _).mono ?_; intro e w2 hp; obtain ⟨rfl, rfl⟩ := hp.yes HT.out)
  refine (HQ.out _).mono ?_
  rintro e w2 ⟨rfl, hb2⟩
  have HB2 := Lib.hid hb2
  clear hb2
  go_wp2_with fail
  refine (HR.out _).mono ?_
  rintro e w3 ⟨rfl, hb3⟩
  have HB3 := Lib.hid (below_trans HB2.out hb3)
  clear hb3
  go_wp2_with fail
  go_ret
  exact ⟨rfl, HB3.out⟩
theorem conv_five {W : World} {b : Nat} {x1 x2 x3 x4 : Nat} (h0 : W.cell? ⟨b, 0, none⟩ = some (.int .u8 (48 + (x1 : Int)))) (h1 : W.cell? ⟨b, 1, none⟩ = some (.int .u8 (48 + (x2 : Int)))) (h2 : W.cell? ⟨b, 2, none⟩ = some (.int .u8 46)) (h3 : W.cell? ⟨b, 3, none⟩ = some (.int .u8 (48 + (x3 : Int)))) (h4 : W.cell? ⟨b, 4, none⟩ = some (.int .u8 (48 + (x4 : Int)))) :
    (convert 22 9 (.slice (some ⟨b, 0, none⟩) 5 5)).run Tryz.prog W = .ok (.string (bs [UInt8.ofNat (48 + x1), UInt8.ofNat (48 + x2), 46, UInt8.ofNat (48 + x3), UInt8.ofNat (48 + x4)])) W := by
  have h := run_convert_bytes_arg (P := Tryz.prog) W 22 5 Tryz.underlying22 Tryz.underlying5 b 0 5 5 [48 + (x1 : Int), 48 + (x2 : Int), 46, 48 + (x3 : Int), 48 + (x4 : Int)] rfl (fun i hi => by
    match i, hi with
    | 0, _ => exact h0
    | 1, _ => exact h1
    | 2, _ => exact h2
    | 3, _ => exact h3
    | 4, _ => exact h4) 9 Tryz.underlying9
  exact h
set_option maxRecDepth 20000 in
set_option maxHeartbeats 800000 in
theorem clockOf_any (t : Nat) (w : World) (h : t ≤ 10000) : Calls Tryz.prog 221 #[.int .i64 t] w (Only (.int .i64 ((t % 1440 : Nat) : Int)) w) := by
  obtain ⟨m, hm⟩ : ∃ m, t % 1440 = m := ⟨_, rfl⟩
  rw [hm]
  have m2 : Int.tmod (t : Int) 1440 = (m : Int) := by rw [Int.tmod_eq_emod_of_nonneg (by omega)]; omega
  have m1 : (t : Int) % 1440 = (m : Int) := by omega
  have m3 : ¬ (m : Int) < 0 := by omega
  clear hm
  go_enter Tryz.func221, Tryz.ntmps221
  go_wp2_with fail
  go_ret
  exact ⟨rfl, Below.refl _ _⟩
set_option maxRecDepth 20000 in
set_option maxHeartbeats 1600000 in
theorem clockText_any (m : Nat) (w : World) (h : m < 1440) :
    Calls Tryz.prog 222 #[.int .i64 m] w (Only (.string (bs [UInt8.ofNat (48 + m / 60 / 10), UInt8.ofNat (48 + m / 60 % 10), 46, UInt8.ofNat (48 + m % 60 / 10), UInt8.ofNat (48 + m % 60 % 10)])) w) := by
  obtain ⟨q, hq⟩ : ∃ q, m / 60 = q := ⟨_, rfl⟩
  obtain ⟨r, hr⟩ : ∃ r, m % 60 = r := ⟨_, rfl⟩
  obtain ⟨a, ha⟩ : ∃ a, q / 10 = a := ⟨_, rfl⟩
  obtain ⟨b, hb⟩ : ∃ b, q % 10 = b := ⟨_, rfl⟩
  obtain ⟨c, hc⟩ : ∃ c, r / 10 = c := ⟨_, rfl⟩
  obtain ⟨d, hd⟩ : ∃ d, r % 10 = d := ⟨_, rfl⟩
  have q2 : Int.tdiv (m : Int) 60 = (q : Int) := by rw [Int.tdiv_eq_ediv_of_nonneg (by omega)]; omega
  have q1 : (m : Int) / 60 = (q : Int) := by omega
  have r2 : Int.tmod (m : Int) 60 = (r : Int) := by rw [Int.tmod_eq_emod_of_nonneg (by omega)]; omega
  have r1 : (m : Int) % 60 = (r : Int) := by omega
  have a2 : Int.tdiv (q : Int) 10 = (a : Int) := by rw [Int.tdiv_eq_ediv_of_nonneg (by omega)]; omega
  have a1 : (q : Int) / 10 = (a : Int) := by omega
  have b2 : Int.tmod (q : Int) 10 = (b : Int) := by rw [Int.tmod_eq_emod_of_nonneg (by omega)]; omega
  have b1 : (q : Int) % 10 = (b : Int) := by omega
  have c2 : Int.tdiv (r : Int) 10 = (c : Int) := by rw [Int.tdiv_eq_ediv_of_nonneg (by omega)]; omega
  have c1 : (r : Int) / 10 = (c : Int) := by omega
  have d2 : Int.tmod (r : Int) 10 = (d : Int) := by rw [Int.tmod_eq_emod_of_nonneg (by omega)]; omega
  have d1 : (r : Int) % 10 = (d : Int) := by omega
  have e1 : IntKind.i64.wrap (q : Int) = (q : Int) := IntWalk.i64_in _ (by omega)
  have e2 : IntKind.u8.wrap (q : Int) = (q : Int) := IntWalk.u8_in _ (by omega)
  have e3 : IntKind.u8.wrap (r : Int) = (r : Int) := IntWalk.u8_in _ (by omega)
  have e4 : IntKind.u8.wrap (a : Int) = (a : Int) := IntWalk.u8_in _ (by omega)
  have e5 : IntKind.u8.wrap (c : Int) = (c : Int) := IntWalk.u8_in _ (by omega)
  have e6 : IntKind.u8.wrap (48 + (a : Int)) = 48 + (a : Int) := IntWalk.u8_in _ (by omega)
  have e7 : IntKind.u8.wrap (48 + (b : Int)) = 48 + (b : Int) := IntWalk.u8_in _ (by omega)
  have e8 : IntKind.u8.wrap (48 + (c : Int)) = 48 + (c : Int) := IntWalk.u8_in _ (by omega)
  have e9 : IntKind.u8.wrap (48 + (d : Int)) = 48 + (d : Int) := IntWalk.u8_in _ (by omega)
  rw [hq, hr, ha, hb, hc, hd]
  clear hq hr ha hb hc hd
  have hconv : (convert 22 9 (.slice (some ⟨w.heap.size, 0, none⟩) 5 5)).run Tryz.prog (w.alloc (.cells #[.int .u8 (48 + (a : Int)), .int .u8 (48 + (b : Int)), .int .u8 46, .int .u8 (48 + (c : Int)), .int .u8 (48 + (d : Int))] 5)) = .ok (.string (bs [UInt8.ofNat (48 + a), UInt8.ofNat (48 + b), 46, UInt8.ofNat (48 + c), UInt8.ofNat (48 + d)])) _ :=
    conv_five (by simp) (by simp) (by simp) (by simp) (by simp)
  have HB := Lib.hid (below_alloc (Below.refl w.heap.size w) (.cells #[.int .u8 (48 + (a : Int)), .int .u8 (48 + (b : Int)), .int .u8 46, .int .u8 (48 + (c : Int)), .int .u8 (48 + (d : Int))] 5))
  generalize bs [UInt8.ofNat (48 + a), UInt8.ofNat (48 + b), 46, UInt8.ofNat (48 + c), UInt8.ofNat (48 + d)] = T at *
  go_enter Tryz.func222, Tryz.ntmps222
  go_wp2_with fail
  go_ret
  exact ⟨rfl, HB.out⟩
set_option maxRecDepth 20000 in
set_option maxHeartbeats 800000 in
theorem implClock_any (t : Nat) (w : World) (h : t ≤ 10000) :
    Calls Tryz.prog 209 #[.int .i64 t] w (Only (.string (bs (clockL t))) w) := by
  have HT := Lib.hid (show (0 : Int) ≤ (t : Int) ∧ (t : Int) ≤ 10000 by omega)
  have HC := Lib.hid (fun W => clockOf_any t W h)
  have HX := Lib.hid (fun W => clockText_any (t % 1440) W (by omega))
  rw [← clockL_nat] at HX
  generalize bs (clockL (t : Int)) = T at *
  generalize t % 1440 = m at *
  go_enter Tryz.func209, Tryz.ntmps209
  go_wp2_with (go_at_call 124; refine (timeValid_any _ _).mono ?_; intro e w2 hp; obtain ⟨rfl, rfl⟩ := hp.yes HT.out)
  refine (HC.out _).mono ?_
  rintro e w2 ⟨rfl, hb2⟩
  have HB2 := Lib.hid hb2
  clear hb2
  go_wp2_with fail
  refine (HX.out _).mono ?_
  rintro e w3 ⟨rfl, hb3⟩
  have HB3 := Lib.hid (below_trans HB2.out hb3)
  clear hb3
  go_wp2_with fail
  go_ret
  exact ⟨rfl, HB3.out⟩
end Go.Proofs.YtgjllminidlolaaGreatDoor
/- Contracts: StopsText of the reference. -/
set_option linter.unusedVariables false
namespace Go.Proofs.YtgjllminidlolaaGreatDoor
open Go.RowKit

theorem lj_app {x y : List UInt8} {m k : Nat} (hx : x.length ≤ m) (hy : y.length ≤ k) : (x ++ y).length ≤ m + k := by
  rw [List.length_append]
  omega
theorem stopL_dec {p : T3} (h : 0 ≤ p.a ∧ p.a < 10) : stopL p = Lib.decDigits p.a.toNat ++ [58] ++ clockL p.b ++ [45] ++ clockL p.c := by
  rw [dec_small (by omega)]
  simp [stopL, digU]
theorem stopsL_first {xs : List T3} {p : T3} (h : xs[0]? = some p) : stopsL (xs.take 1) = stopL p := by
  obtain ⟨q, l, rfl⟩ : ∃ q l, xs = q :: l := by
    cases xs with
    | nil => cases h
    | cons q l => exact ⟨q, l, rfl⟩
  injection h with h
  subst h
  simp [stopsL, Lib.join]
theorem stopsL_next {xs : List T3} {j : Nat} {p : T3} (h : xs[j]? = some p) (hj : 0 < j) : stopsL (xs.take (j + 1)) = stopsL (xs.take j) ++ [32] ++ stopL p := by
  have hl := (List.getElem?_eq_some_iff.1 h).1
  unfold stopsL
  rw [take_next h, List.map_append]
  show Lib.join ((xs.take j).map stopL ++ [stopL p]) [32] = _
  rw [join_snoc, if_neg (fun e => by
    have := congrArg List.length e
    rw [List.length_map, List.length_take, List.length_nil] at this
    omega), List.append_assoc]
theorem clockL_len (t : Int) : (clockL t).length ≤ 5 := by simp [clockL]
theorem stopsL_take_len {xs : List T3} (h : xs.length ≤ 8) (j : Nat) : (stopsL (xs.take j)).length ≤ 120 := by
  have h1 := join_le [32] 13 ((xs.take j).map stopL) (fun l hl => by
    obtain ⟨p, _, rfl⟩ := List.mem_map.1 hl
    simp [stopL, clockL])
  rw [List.length_map, List.length_take] at h1
  unfold stopsL
  simp only [List.length_singleton] at h1
  omega
set_option maxRecDepth 20000 in
set_option maxHeartbeats 12800000 in
theorem specStopsText_any (A : Option Addr) (n : Int) (len c : Nat) (xs : List T3) (W0 : World) (h : SlE 3 enc3 W0 A len xs) (hok : StopsOk n xs) :
    Calls Tryz.prog 151 #[.int .i64 n, .slice A len c] W0 (Only (.string (bs (stopsL xs))) W0) := by
  have S4 := Lib.hid h
  have HOK := Lib.hid hok
  have HL := Lib.hid h.len
  have hl8 : len ≤ 8 := by rw [← h.len]; exact hok.2.2.2.1
  have hn1 : 1 ≤ n ∧ n ≤ 8 := ⟨hok.1, hok.2.1⟩
  have HTL := Lib.hid (fun j => stopsL_take_len (xs := xs) hok.2.2.2.1 j)
  have HS0 : Hid ((⟨#[]⟩ : ByteArray) = bs (stopsL (xs.take 0))) := Lib.hid rfl
  have HSV := Lib.hid (fun W (hW : Below W0.heap.size W0 W) => specStopsValid_any A n len c xs W (h.below hW) (by omega) (by omega) (by omega))
  clear h hok
  go_enter Tryz.func151, Tryz.ntmps151
  go_wp2_with fail
  go_loopw [5, 6] (fun s i wr => ∃ j : Nat, j ≤ len ∧ i = .int .i64 j ∧ s = .string (bs (stopsL (xs.take j))) ∧ Below W0.heap.size W0 wr) (fun _ i _ => len - (intOf i).toNat)
  case atStart => exact ⟨0, by omega, rfl, by rw [← HS0.out], Below.refl _ _⟩
  case round =>
    obtain ⟨j, hj, rfl, rfl, hbr⟩ := hrel
    have HR := Lib.hid hbr
    clear hbr
    by_cases hjl : j < len
    · have hjz : (j : Int) < (len : Int) := by omega
      go_wp2_with fail
      refine (HSV.out _ HR.out).mono ?_
      intro e w9 hp
      obtain ⟨rfl, hb9⟩ := hp.yes HOK.out
      have HR2 := Lib.hid (below_trans HR.out hb9)
      clear hp hb9
      obtain ⟨bb, off, x, y, z, rfl, hbl, hx, hd, g0, g1, g2⟩ := at3 S4.out HR2.out hjl
      have hob := HOK.out.2.2.2.2.1 _ (mem_at hx)
      dsimp only at hob
      obtain ⟨x, rfl⟩ : ∃ i : Nat, x = i := ⟨x.toNat, by omega⟩
      obtain ⟨y, rfl⟩ : ∃ i : Nat, y = i := ⟨y.toNat, by omega⟩
      obtain ⟨z, rfl⟩ : ∃ i : Nat, z = i := ⟨z.toNat, by omega⟩
      have hsd := stopL_dec (p := ⟨x, y, z⟩) (by dsimp only; omega)
      dsimp only [Int.toNat_natCast] at hsd
      have hw1 := HTL.out j
      have hw2 := decDigits_len 1 x (by omega) (by omega)
      have hw3 := clockL_len y
      have hw4 := clockL_len z
      have HD1 := Lib.hid (fun W => l6Dec_any x W (by omega))
      have HD2 := Lib.hid (fun W => specClock_any y W (by omega))
      have HD3 := Lib.hid (fun W => specClock_any z W (by omega))
      by_cases hj0 : j = 0
      · subst hj0
        simp only [Nat.zero_mul, Nat.add_zero] at g0 g1 g2
        have HC0 := Lib.hid (And.intro g0 (And.intro g1 g2))
        have HTN := Lib.hid ((stopsL_first hx).trans hsd)
        clear hd hx hob hsd
        have ad1 : ∀ W, (Op.stringOp .add (bs (stopsL (xs.take 0))) (bs (Lib.decDigits x))).run Tryz.prog W = .ok (.string (bs ((stopsL (xs.take 0)) ++ (Lib.decDigits x)))) W := add_lists ((stopsL (xs.take 0))) (Lib.decDigits x) (Nat.le_trans hw1 (by decide)) (Nat.le_trans hw2 (by decide))
        have lad1 := lj_app hw1 hw2
        have ad2 : ∀ W, (Op.stringOp .add (bs ((stopsL (xs.take 0)) ++ (Lib.decDigits x))) ⟨#[58]⟩).run Tryz.prog W = .ok (.string (bs ((stopsL (xs.take 0)) ++ (Lib.decDigits x) ++ [58]))) W := add_lists ((stopsL (xs.take 0)) ++ (Lib.decDigits x)) [58] (Nat.le_trans lad1 (by decide)) (Nat.le_trans (show ([58] : List UInt8).length ≤ 1 from Nat.le_refl _) (by decide))
        have lad2 := lj_app lad1 (show ([58] : List UInt8).length ≤ 1 from Nat.le_refl _)
        have ad3 : ∀ W, (Op.stringOp .add (bs ((stopsL (xs.take 0)) ++ (Lib.decDigits x) ++ [58])) (bs (clockL (y : Int)))).run Tryz.prog W = .ok (.string (bs ((stopsL (xs.take 0)) ++ (Lib.decDigits x) ++ [58] ++ (clockL (y : Int))))) W := add_lists ((stopsL (xs.take 0)) ++ (Lib.decDigits x) ++ [58]) (clockL (y : Int)) (Nat.le_trans lad2 (by decide)) (Nat.le_trans hw3 (by decide))
        have lad3 := lj_app lad2 hw3
        have ad4 : ∀ W, (Op.stringOp .add (bs ((stopsL (xs.take 0)) ++ (Lib.decDigits x) ++ [58] ++ (clockL (y : Int)))) ⟨#[45]⟩).run Tryz.prog W = .ok (.string (bs ((stopsL (xs.take 0)) ++ (Lib.decDigits x) ++ [58] ++ (clockL (y : Int)) ++ [45]))) W := add_lists ((stopsL (xs.take 0)) ++ (Lib.decDigits x) ++ [58] ++ (clockL (y : Int))) [45] (Nat.le_trans lad3 (by decide)) (Nat.le_trans (show ([45] : List UInt8).length ≤ 1 from Nat.le_refl _) (by decide))
        have lad4 := lj_app lad3 (show ([45] : List UInt8).length ≤ 1 from Nat.le_refl _)
        have ad5 : ∀ W, (Op.stringOp .add (bs ((stopsL (xs.take 0)) ++ (Lib.decDigits x) ++ [58] ++ (clockL (y : Int)) ++ [45])) (bs (clockL (z : Int)))).run Tryz.prog W = .ok (.string (bs (stopsL (xs.take (0 + 1))))) W := fun W => by
          rw [HTN.out, show Lib.decDigits x ++ [58] ++ clockL (y : Int) ++ [45] ++ clockL (z : Int) = stopsL (xs.take 0) ++ Lib.decDigits x ++ [58] ++ clockL (y : Int) ++ [45] ++ clockL (z : Int) from rfl]
          exact add_lists ((stopsL (xs.take 0)) ++ (Lib.decDigits x) ++ [58] ++ (clockL (y : Int)) ++ [45]) (clockL (z : Int)) (Nat.le_trans lad4 (by decide)) (Nat.le_trans hw4 (by decide)) W
        clear lad1 lad2 lad3 lad4
        clear hw1 hw2 hw3 hw4 HTN
        generalize hTN : bs (stopsL (xs.take (0 + 1))) = TN at *
        have HTNX := Lib.hid hTN
        clear hTN
        generalize bs ((stopsL (xs.take 0)) ++ (Lib.decDigits x) ++ [58] ++ (clockL (y : Int)) ++ [45]) = T3 at *
        generalize bs ((stopsL (xs.take 0)) ++ (Lib.decDigits x) ++ [58] ++ (clockL (y : Int))) = T2 at *
        generalize bs ((stopsL (xs.take 0)) ++ (Lib.decDigits x) ++ [58]) = T1 at *
        generalize bs ((stopsL (xs.take 0)) ++ (Lib.decDigits x)) = T0 at *
        generalize bs (stopsL (xs.take 0)) = TS at *
        generalize bs (Lib.decDigits x) = D1 at *
        generalize bs (clockL (y : Int)) = D2 at *
        generalize bs (clockL (z : Int)) = D3 at *
        go_wp2_with fail
        go_region_held3 (fun w' => w'.cell? ⟨bb, off, none⟩ = some (.int .i64 x) ∧ w'.cell? ⟨bb, off + 1, none⟩ = some (.int .i64 y) ∧ w'.cell? ⟨bb, off + 2, none⟩ = some (.int .i64 z))
          (first | exact HC0.out | exact CZ2.out | exact CZ3.out | exact CZ4.out | fail)
          (first
            | (go_at_call 189; have HQ := HB3; (with_reducible_and_instances refine (HD3.out _).mono ?_); rintro e w4 ⟨rfl, hb4⟩; have HB4 := Lib.hid (below_trans HB3.out hb4); have CZ4 := Lib.hid (cells3_below hb4 CZ3.out); clear hb4)
            | (go_at_call 189; have HQ := HB2; (with_reducible_and_instances refine (HD2.out _).mono ?_); rintro e w3 ⟨rfl, hb3⟩; have HB3 := Lib.hid (below_trans HB2.out hb3); have CZ3 := Lib.hid (cells3_below hb3 CZ2.out); clear hb3)
            | (go_at_call 41; (with_reducible_and_instances refine (HD1.out _).mono ?_); rintro e w2 ⟨rfl, hb2⟩; have HB2 := Lib.hid (below_trans (below_drew HR2.out) hb2); have CZ2 := Lib.hid (cells3_below hb2 HC0.out); clear hb2)
            | fail)
        go_wp2_with fail
        go_roundw
        case rel => exact ⟨0 + 1, by omega, by go_num, by rw [HTNX.out], HB4.out⟩
        case measure => simp [intOf]; omega
      · have hj1 : (0 : Int) < (j : Int) := by omega
        have HC0 := Lib.hid (And.intro g0 (And.intro g1 g2))
        have HTN := Lib.hid (stopsL_next hx (by omega))
        rw [hsd] at HTN
        clear hd hx hob hsd
        have adp : ∀ W, (Op.stringOp .add (bs (stopsL (xs.take j))) ⟨#[32]⟩).run Tryz.prog W = .ok (.string (bs (stopsL (xs.take j) ++ [32]))) W := add_lists (stopsL (xs.take j)) [32] (Nat.le_trans hw1 (by decide)) (by decide)
        have hw0 := lj_app hw1 (show ([32] : List UInt8).length ≤ 1 from Nat.le_refl _)
        have ad1 : ∀ W, (Op.stringOp .add (bs (stopsL (xs.take j) ++ [32])) (bs (Lib.decDigits x))).run Tryz.prog W = .ok (.string (bs ((stopsL (xs.take j) ++ [32]) ++ (Lib.decDigits x)))) W := add_lists ((stopsL (xs.take j) ++ [32])) (Lib.decDigits x) (Nat.le_trans hw0 (by decide)) (Nat.le_trans hw2 (by decide))
        have lad1 := lj_app hw0 hw2
        have ad2 : ∀ W, (Op.stringOp .add (bs ((stopsL (xs.take j) ++ [32]) ++ (Lib.decDigits x))) ⟨#[58]⟩).run Tryz.prog W = .ok (.string (bs ((stopsL (xs.take j) ++ [32]) ++ (Lib.decDigits x) ++ [58]))) W := add_lists ((stopsL (xs.take j) ++ [32]) ++ (Lib.decDigits x)) [58] (Nat.le_trans lad1 (by decide)) (Nat.le_trans (show ([58] : List UInt8).length ≤ 1 from Nat.le_refl _) (by decide))
        have lad2 := lj_app lad1 (show ([58] : List UInt8).length ≤ 1 from Nat.le_refl _)
        have ad3 : ∀ W, (Op.stringOp .add (bs ((stopsL (xs.take j) ++ [32]) ++ (Lib.decDigits x) ++ [58])) (bs (clockL (y : Int)))).run Tryz.prog W = .ok (.string (bs ((stopsL (xs.take j) ++ [32]) ++ (Lib.decDigits x) ++ [58] ++ (clockL (y : Int))))) W := add_lists ((stopsL (xs.take j) ++ [32]) ++ (Lib.decDigits x) ++ [58]) (clockL (y : Int)) (Nat.le_trans lad2 (by decide)) (Nat.le_trans hw3 (by decide))
        have lad3 := lj_app lad2 hw3
        have ad4 : ∀ W, (Op.stringOp .add (bs ((stopsL (xs.take j) ++ [32]) ++ (Lib.decDigits x) ++ [58] ++ (clockL (y : Int)))) ⟨#[45]⟩).run Tryz.prog W = .ok (.string (bs ((stopsL (xs.take j) ++ [32]) ++ (Lib.decDigits x) ++ [58] ++ (clockL (y : Int)) ++ [45]))) W := add_lists ((stopsL (xs.take j) ++ [32]) ++ (Lib.decDigits x) ++ [58] ++ (clockL (y : Int))) [45] (Nat.le_trans lad3 (by decide)) (Nat.le_trans (show ([45] : List UInt8).length ≤ 1 from Nat.le_refl _) (by decide))
        have lad4 := lj_app lad3 (show ([45] : List UInt8).length ≤ 1 from Nat.le_refl _)
        have ad5 : ∀ W, (Op.stringOp .add (bs ((stopsL (xs.take j) ++ [32]) ++ (Lib.decDigits x) ++ [58] ++ (clockL (y : Int)) ++ [45])) (bs (clockL (z : Int)))).run Tryz.prog W = .ok (.string (bs (stopsL (xs.take (j + 1))))) W := fun W => by
          rw [HTN.out, show stopsL (xs.take j) ++ [32] ++ (Lib.decDigits x ++ [58] ++ clockL (y : Int) ++ [45] ++ clockL (z : Int)) = stopsL (xs.take j) ++ [32] ++ Lib.decDigits x ++ [58] ++ clockL (y : Int) ++ [45] ++ clockL (z : Int) by simp only [List.append_assoc]]
          exact add_lists ((stopsL (xs.take j) ++ [32]) ++ (Lib.decDigits x) ++ [58] ++ (clockL (y : Int)) ++ [45]) (clockL (z : Int)) (Nat.le_trans lad4 (by decide)) (Nat.le_trans hw4 (by decide)) W
        clear lad1 lad2 lad3 lad4
        clear hw0 hw1 hw2 hw3 hw4 HTN
        generalize hTN : bs (stopsL (xs.take (j + 1))) = TN at *
        have HTNX := Lib.hid hTN
        clear hTN
        generalize bs ((stopsL (xs.take j) ++ [32]) ++ (Lib.decDigits x) ++ [58] ++ (clockL (y : Int)) ++ [45]) = T3 at *
        generalize bs ((stopsL (xs.take j) ++ [32]) ++ (Lib.decDigits x) ++ [58] ++ (clockL (y : Int))) = T2 at *
        generalize bs ((stopsL (xs.take j) ++ [32]) ++ (Lib.decDigits x) ++ [58]) = T1 at *
        generalize bs ((stopsL (xs.take j) ++ [32]) ++ (Lib.decDigits x)) = T0 at *
        generalize bs (stopsL (xs.take j) ++ [32]) = TP at *
        generalize bs (stopsL (xs.take j)) = TS at *
        generalize bs (Lib.decDigits x) = D1 at *
        generalize bs (clockL (y : Int)) = D2 at *
        generalize bs (clockL (z : Int)) = D3 at *
        go_wp2_with fail
        go_region_held3 (fun w' => w'.cell? ⟨bb, off + j * 3, none⟩ = some (.int .i64 x) ∧ w'.cell? ⟨bb, off + j * 3 + 1, none⟩ = some (.int .i64 y) ∧ w'.cell? ⟨bb, off + j * 3 + 2, none⟩ = some (.int .i64 z))
          (first | exact HC0.out | exact CZ2.out | exact CZ3.out | exact CZ4.out | fail)
          (first
            | (go_at_call 189; have HQ := HB3; (with_reducible_and_instances refine (HD3.out _).mono ?_); rintro e w4 ⟨rfl, hb4⟩; have HB4 := Lib.hid (below_trans HB3.out hb4); have CZ4 := Lib.hid (cells3_below hb4 CZ3.out); clear hb4)
            | (go_at_call 189; have HQ := HB2; (with_reducible_and_instances refine (HD2.out _).mono ?_); rintro e w3 ⟨rfl, hb3⟩; have HB3 := Lib.hid (below_trans HB2.out hb3); have CZ3 := Lib.hid (cells3_below hb3 CZ2.out); clear hb3)
            | (go_at_call 41; (with_reducible_and_instances refine (HD1.out _).mono ?_); rintro e w2 ⟨rfl, hb2⟩; have HB2 := Lib.hid (below_trans (below_drew HR2.out) hb2); have CZ2 := Lib.hid (cells3_below hb2 HC0.out); clear hb2)
            | fail)
        go_wp2_with fail
        go_roundw
        case rel => exact ⟨j + 1, by omega, by go_num, by rw [HTNX.out], HB4.out⟩
        case measure => simp [intOf]; omega
    · obtain rfl : len = j := by omega
      have HE := Lib.hid (show bs (stopsL (xs.take len)) = bs (stopsL xs) by rw [List.take_of_length_le (by rw [HL.out]; exact Nat.le_refl _)])
      generalize bs (stopsL (xs.take len)) = TS at *
      go_wp2_with fail
      go_ret
      exact ⟨by rw [← HE.out]; rfl, HR.out⟩
end Go.Proofs.YtgjllminidlolaaGreatDoor
/- Contracts: the words of a line and their numbers, in the reference. -/
set_option linter.unusedVariables false
namespace Go.Proofs.YtgjllminidlolaaGreatDoor
open Go.RowKit

theorem extract_bs (s : ByteArray) (f i : Nat) : s.extract f i = bs ((s.data.toList.drop f).take (i - f)) := by
  apply ByteArray.ext
  apply Array.toList_inj.1
  simp [bs, ByteArray.data_extract]
theorem at_byte (s : ByteArray) {j : Nat} (hj : j < s.size) : s.data.toList[j]? = some (s[j]'hj) := by
  rw [Array.getElem?_toList]
  exact Array.getElem?_eq_getElem hj
theorem cut_hit {c : UInt8} {l : List UInt8} {f j : Nat} (hf : f ≤ j) (hc : l[j]? = some c) (hn : c ∉ (l.drop f).take (j - f)) : cutL c (l.drop f) = (l.drop f).take (j - f) :: cutL c (l.drop (j + 1)) := by
  obtain ⟨hj, hcj⟩ := List.getElem?_eq_some_iff.1 hc
  have h1 : l.drop f = (l.drop f).take (j - f) ++ c :: l.drop (j + 1) := by
    have h2 : (l.drop f).drop (j - f) = c :: l.drop (j + 1) := by
      rw [List.drop_drop, show f + (j - f) = j by omega, List.drop_eq_getElem_cons hj, hcj]
    rw [← h2, List.take_append_drop]
  conv => lhs; rw [h1]
  rw [cutL_line c _ _ hn]
theorem take_miss {c b : UInt8} {l : List UInt8} {f j : Nat} (hf : f ≤ j) (hb : l[j]? = some b) (hne : b ≠ c) (hn : c ∉ (l.drop f).take (j - f)) : c ∉ (l.drop f).take (j + 1 - f) := by
  have h1 : (l.drop f)[j - f]? = some b := by rw [List.getElem?_drop, show f + (j - f) = j by omega]; exact hb
  rw [show j + 1 - f = j - f + 1 by omega, take_next h1, List.mem_append, not_or]
  exact ⟨hn, fun h => hne (List.mem_singleton.1 h).symm⟩
set_option maxRecDepth 20000 in
set_option maxHeartbeats 3200000 in
theorem l10Cut_any (c : UInt8) (cz : Int) (hcz : (c.toNat : Int) = cz) (s : ByteArray) (w : World) (hs : s.size ≤ 1000) :
    Calls Tryz.prog 39 #[.string s, .int .u8 cz] w (RetOwn 1 encS 9 ((cutL c s.data.toList).map bs) w) := by
  have HCZ := Lib.hid hcz
  have OE := Lib.hid (own_new (enc := encS) (k := 1) w 9 w.heap.size (Nat.le_refl _) encS_len [] #[] rfl (by simp) rfl)
  clear hcz
  go_enter Tryz.func39, Tryz.ntmps39
  go_wp2_with fail
  go_loopw [5, 6, 7] (fun v fr i wr => ∃ (j f : Nat) (o : List (List UInt8)), j ≤ s.size ∧ f ≤ j ∧ i = .int .i64 j ∧ fr = .int .i64 f ∧ OwnE 1 encS 9 w.heap.size wr v (o.map bs) ∧ Below w.heap.size w wr ∧ cutL c s.data.toList = o ++ cutL c (s.data.toList.drop f) ∧ c ∉ (s.data.toList.drop f).take (j - f) ∧ o.length ≤ f) (fun _ _ i _ => s.size - (intOf i).toNat)
  case atStart => exact ⟨0, 0, [], by omega, by omega, rfl, rfl, OE.out, below_alloc (Below.refl _ _) _, rfl, by simp, Nat.le_refl _⟩
  case round =>
    obtain ⟨j, f, o, hj, hfj, rfl, rfl, hown, hbr, hcut, hno, hol⟩ := hrel
    have HO := Lib.hid hown
    have HR := Lib.hid hbr
    have HCUT := Lib.hid hcut
    have HNO := Lib.hid hno
    have HOL := Lib.hid (show (o.map bs).length ≤ 1000 by rw [List.length_map]; omega)
    have HOL2 := Lib.hid hol
    have hsz := hbr.size
    have j0 : (0 : Int) ≤ (j : Int) ∧ (0 : Int) ≤ (f : Int) ∧ (f : Int) ≤ (j : Int) := ⟨by omega, by omega, by omega⟩
    obtain ⟨j0, f0, fj⟩ := j0
    clear hown hbr hcut hno hol OE
    by_cases hjs : j < s.size
    · obtain ⟨b, hsj⟩ : ∃ b, s[j]'hjs = b := ⟨_, rfl⟩
      have hlj := at_byte s hjs
      rw [hsj] at hlj
      have HLJ := Lib.hid hlj
      obtain ⟨bn, hbn⟩ : ∃ bn : Nat, b.toNat = bn := ⟨_, rfl⟩
      have j1 : (j : Int) < (s.size : Int) := by omega
      have j2 : (j : Int) ≤ (s.size : Int) := by omega
      clear hlj
      by_cases hbc : b = c
      · have dn : ((bn : Int) == cz) = true := by rw [← hbn, hbc, HCZ.out]; simp
        have HX := Lib.hid (extract_bs s f j)
        have HNX := Lib.hid (cut_hit hfj (by rw [HLJ.out, hbc]) HNO.out)
        clear hbc
        go_wp2_with (at_builtin; refine wpList_push 1 16 9 encS encS_len encS_one (by omega) (s.extract f j) _ _ rfl rfl _ _ _ rfl Tryz.underlying60 info_str rfl w.heap.size _ _ rfl rfl rfl HO.out (by have := HOL.out; omega) (by have := HOL.out; unfold maxLen; omega) hsz ?_; intro v' w' hown' hg'; have HO' := Lib.hid hown'; have HB' := Lib.hid (below_grown HR.out hg' HO.out (Nat.le_refl _)); clear hown' hg')
        go_roundw
        case rel => exact ⟨j + 1, j + 1, o ++ [(s.data.toList.drop f).take (j - f)], by omega, by omega, by go_num, by go_num, by rw [List.map_append, List.map_singleton, ← HX.out]; exact HO'.out, HB'.out, by rw [HCUT.out, HNX.out, List.append_assoc]; rfl, by simp, by rw [List.length_append, List.length_singleton]; have := HOL2.out; omega⟩
        case measure => simp [intOf]; omega
      · have dn : ((bn : Int) == cz) = false := by
          rw [← hbn, ← HCZ.out]
          simp only [beq_eq_false_iff_ne, ne_eq]
          intro h
          exact hbc (UInt8.toNat_inj.1 (by omega))
        have HMS := Lib.hid (take_miss hfj HLJ.out hbc HNO.out)
        clear hbc
        go_wp2_with fail
        go_roundw
        case rel => exact ⟨j + 1, f, o, by omega, by omega, by go_num, rfl, HO.out, HR.out, HCUT.out, HMS.out, HOL2.out⟩
        case measure => simp [intOf]; omega
    · obtain rfl : j = s.size := by omega
      have HX := Lib.hid (extract_bs s f s.size)
      have HT := Lib.hid (show (s.data.toList.drop f).take (s.size - f) = s.data.toList.drop f from List.take_of_length_le (by rw [List.length_drop]; simp))
      have j1 : (f : Int) ≤ (s.size : Int) := by omega
      go_wp2_with (at_builtin; refine wpList_push 1 16 9 encS encS_len encS_one (by omega) (s.extract f s.size) _ _ rfl rfl _ _ _ rfl Tryz.underlying60 info_str rfl w.heap.size _ _ rfl rfl rfl HO.out (by have := HOL.out; omega) (by have := HOL.out; unfold maxLen; omega) hsz ?_; intro v' w' hown' hg'; have HO' := Lib.hid hown'; have HB' := Lib.hid (below_grown HR.out hg' HO.out (Nat.le_refl _)); clear hown' hg')
      go_ret
      refine ⟨_, rfl, ?_, HB'.out⟩
      have e : (cutL c s.data.toList).map bs = o.map bs ++ [s.extract f s.size] := by
        have h1 := HNO.out
        rw [HT.out] at h1
        rw [HCUT.out, cutL_end c _ h1, List.map_append, HX.out, HT.out]
        rfl
      rw [e]
      exact HO'.out
set_option maxRecDepth 20000 in
set_option maxHeartbeats 3200000 in
theorem l10Number_any (s : ByteArray) (w : World) :
    Calls Tryz.prog 108 #[.string s] w (Only (.int .i64 (numL s.data.toList)) w) := by
  have hsz : s.size = s.data.toList.length := by simp
  by_cases hlen : 1 ≤ (s.size : Int) ∧ (s.size : Int) ≤ 5
  rotate_left
  · have HN := Lib.hid (show numL s.data.toList = 99999 by rw [numL, if_neg (fun h => hlen (by rw [hsz]; omega))])
    have HL := Lib.hid hlen
    clear hlen hsz
    go_enter Tryz.func108, Tryz.ntmps108
    go_wp2_with fail
    refine (l6In_any _ _ _ _).mono ?_
    intro e w2 hp
    obtain ⟨rfl, rfl⟩ := hp.no HL.out
    clear hp
    go_wp2_with fail
    go_ret
    exact ⟨by rw [HN.out]; rfl, Below.refl _ _⟩
  have HLN := Lib.hid hlen
  obtain ⟨h1, h5⟩ := hlen
  have HSZ := Lib.hid hsz
  clear hsz
  go_enter Tryz.func108, Tryz.ntmps108
  go_wp2_with fail
  refine (l6In_any _ _ _ _).mono ?_
  intro e w2 hp
  obtain ⟨rfl, rfl⟩ := hp.yes HLN.out
  clear hp
  go_wp2_with fail
  go_loop [3, 4] (fun v i => ∃ j : Nat, j ≤ s.size ∧ i = .int .i64 j ∧ v = .int .i64 (numD (s.data.toList.take j) 0) ∧ (s.data.toList.take j).all isDig = true) (fun _ i => s.size - (intOf i).toNat)
  case atStart => exact ⟨0, by omega, rfl, rfl, rfl⟩
  case round =>
    obtain ⟨j, hj, rfl, rfl, hall⟩ := hrel
    have hbd := numD_bd _ 0 hall (by omega)
    have htl : (s.data.toList.take j).length ≤ j := List.length_take_le _ _
    have HA := Lib.hid hall
    clear hall
    by_cases hjs : j < s.size
    rotate_left
    · have e : j = s.size := by omega
      have HT := Lib.hid (show s.data.toList.take j = s.data.toList from List.take_of_length_le (by rw [← HSZ.out]; omega))
      have HV := Lib.hid (show numL s.data.toList = numD (s.data.toList.take j) 0 by
        rw [numL, if_pos ⟨by rw [← HSZ.out]; omega, by rw [← HSZ.out]; omega, by rw [← HT.out]; exact HA.out⟩, HT.out])
      clear e hbd htl
      generalize numD (s.data.toList.take j) 0 = nv at *
      go_wp2_with fail
      go_ret
      exact ⟨by rw [HV.out]; rfl, Below.refl _ _⟩
    have hp5 : (10 : Int) ^ (s.data.toList.take j).length ≤ 10000 := by
      have h : (s.data.toList.take j).length ≤ 4 := by omega
      rcases (by omega : (s.data.toList.take j).length = 0 ∨ (s.data.toList.take j).length = 1 ∨ (s.data.toList.take j).length = 2 ∨ (s.data.toList.take j).length = 3 ∨ (s.data.toList.take j).length = 4) with e | e | e | e | e <;> rw [e] <;> decide
    obtain ⟨n0, n1⟩ := hbd
    obtain ⟨c, hsj⟩ : ∃ c, s[j]'hjs = c := ⟨_, rfl⟩
    have hc := at_byte s hjs
    rw [hsj] at hc
    have HX := Lib.hid hc
    have hcl := c.toNat_lt
    have n2 : numD (s.data.toList.take j) 0 ≤ 10000 := by omega
    have HN := Lib.hid (show numD (s.data.toList.take (j + 1)) 0 = 10 * numD (s.data.toList.take j) 0 + ((c.toNat : Int) - 48) by rw [take_at_next _ _ _ hc, numD_append, Int.mul_comm]; rfl)
    have HD := Lib.hid (show (s.data.toList.take (j + 1)).all isDig = isDig c by rw [take_at_next _ _ _ hc, List.all_append, HA.out]; simp)
    have HF := Lib.hid (show isDig c = false → numL s.data.toList = 99999 from fun hd => by
      rw [numL, if_neg (fun h => by
        have := List.all_eq_true.1 h.2.2 c (List.mem_of_getElem? hc)
        rw [hd] at this
        cases this)])
    have HDG := Lib.hid (show isDig c = true ↔ 48 ≤ c.toNat ∧ c.toNat ≤ 57 by simp [isDig, UInt8.le_iff_toNat_le])
    clear hc hp5 htl n1
    generalize numD (s.data.toList.take j) 0 = nv at *
    generalize hcn : c.toNat = cn at *
    have i0 : (0 : Int) ≤ (cn : Int) := by omega
    have i1 : (cn : Int) ≤ 255 := by omega
    have i2 : (0 : Int) ≤ (j : Int) := by omega
    have i3 : (j : Int) < (s.size : Int) := by omega
    clear hcl
    by_cases hd : 48 ≤ cn ∧ cn ≤ 57
    · obtain ⟨d0, d1⟩ := hd
      have d2 : (48 : Int) ≤ (cn : Int) := by omega
      have d3 : (cn : Int) ≤ 57 := by omega
      go_wp2_with fail
      go_round
      case rel => exact ⟨j + 1, by omega, by go_num, by rw [HN.out], by rw [HD.out]; exact HDG.out.2 ⟨d0, d1⟩⟩
      case measure => simp [intOf]; omega
    · have HV := Lib.hid (HF.out (by cases hx : isDig c with | false => rfl | true => exact absurd (HDG.out.1 hx) hd))
      rcases (by omega : cn < 48 ∨ 57 < cn) with e | e
      all_goals
        have e' := e
        clear hd e
        go_wp2_with fail
        go_ret
        exact ⟨by rw [HV.out]; rfl, Below.refl _ _⟩
set_option maxRecDepth 20000 in
set_option maxHeartbeats 1600000 in
theorem l10Numbers_any (A : Option Addr) (n c : Nat) (wd : List UInt8) (ws : List (List UInt8)) (w : World) (h : SlE 1 encS w A n ((wd :: ws).map bs)) (hn : n ≤ 1002) :
    Calls Tryz.prog 72 #[.slice A n c] w (RetOwn 1 encI 3 (ws.map numL) w) := by
  have H := Lib.hid h
  have HL := Lib.hid (show ws.length + 1 = n by rw [← h.len, List.length_map, List.length_cons])
  have OE := Lib.hid (own_new (enc := encI) (k := 1) w 3 w.heap.size (Nat.le_refl _) encI_len [] #[] rfl (by simp) rfl)
  clear h
  go_enter Tryz.func72, Tryz.ntmps72
  go_wp2_with fail
  go_loopw [3, 4] (fun v i wr => ∃ j k : Nat, k = j + 1 ∧ k ≤ n ∧ i = .int .i64 k ∧ OwnE 1 encI 3 w.heap.size wr v ((ws.take j).map numL) ∧ Below w.heap.size w wr) (fun _ i _ => n - (intOf i).toNat)
  case atStart => exact ⟨0, 1, rfl, by have := HL.out; omega, rfl, OE.out, below_alloc (Below.refl _ _) _⟩
  case round =>
    obtain ⟨j, k, hkj, hk, rfl, hown, hbr⟩ := hrel
    have HO := Lib.hid hown
    have HR := Lib.hid hbr
    have HKJ := Lib.hid hkj
    have hsz := hbr.size
    clear hown hbr OE hkj
    by_cases hkn : k < n
    · obtain ⟨b, off, x, rfl, hbl, hx, -, g0⟩ := atS H.out HR.out hkn
      obtain ⟨l, hl⟩ : ∃ l, ws[j]? = some l := ⟨_, List.getElem?_eq_getElem (by have := HL.out; have := HKJ.out; omega)⟩
      obtain rfl : x = bs l := by
        rw [HKJ.out, List.map_cons, List.getElem?_cons_succ, List.getElem?_map, hl] at hx
        exact (Option.some.inj hx).symm
      have HN := Lib.hid (show (ws.take (j + 1)).map numL = (ws.take j).map numL ++ [numL l] by rw [take_next hl, List.map_append]; rfl)
      have HQ := Lib.hid (show ((ws.take j).map numL).length ≤ 1002 by rw [List.length_map, List.length_take]; have := HL.out; omega)
      have HX := Lib.hid (l10Number_any (bs l))
      rw [bs_data] at HX
      clear hx hl hbl
      generalize (ws.take j).map numL = rs at *
      generalize numL l = q at *
      go_wp2_with fail
      refine (HX.out _).mono ?_
      rintro e w2 ⟨rfl, hb2⟩
      have HO2 := Lib.hid (HO.out.below hb2 (Nat.le_refl _))
      have HB2 := Lib.hid (HR.out.trans (hb2.mono hsz))
      have hsz2 := HB2.out.size
      clear hb2
      go_wp2_with (at_builtin; refine wpList_push 1 8 3 encI encI_len encI_one (by omega) q _ _ rfl rfl _ _ _ rfl Tryz.underlying29 info_intN rfl w.heap.size _ _ rfl rfl rfl HO2.out (by have := HQ.out; omega) (by have := HQ.out; unfold maxLen; omega) hsz2 ?_; intro v' w' hown' hg'; have HO' := Lib.hid hown'; have HB' := Lib.hid (below_grown HB2.out hg' HO2.out (Nat.le_refl _)); clear hown' hg')
      go_roundw
      case rel => exact ⟨j + 1, k + 1, by have := HKJ.out; omega, by omega, by go_num, by rw [HN.out]; exact HO'.out, HB'.out⟩
      case measure => simp [intOf]; omega
    · have HE := Lib.hid (show (ws.take j).map numL = ws.map numL by rw [List.take_of_length_le (by have := HL.out; have := HKJ.out; omega)])
      generalize (ws.take j).map numL = rs at *
      go_wp2_with fail
      go_ret
      exact ⟨_, rfl, by rw [← HE.out]; exact HO.out, HR.out⟩
end Go.Proofs.YtgjllminidlolaaGreatDoor
