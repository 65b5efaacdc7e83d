/- Texts of mine in one: KWalkI QWalkK QPlain. -/
import Derived.Test.YtgjllminidlolaaGreatDoorVAS
import Derived.Test.YtgjllminidlolaaGreatDoorVAU
import Derived.Test.YtgjllminidlolaaGreatDoorVAX
import Derived.Test.YtgjllminidlolaaGreatDoorVAO
/- Contracts: every line of a script is obeyed as the plain law says; Execute of the program at any text. -/
set_option linter.unusedVariables false
namespace Go.Proofs.YtgjllminidlolaaGreatDoor
open Go.RowKit

theorem cmd_coaches : cmdOf (bs coachesW) = some (0, 141) := by kernel_rfl
theorem cmd_ride : cmdOf (bs rideW) = some (4, 143) := by kernel_rfl
theorem cf_coaches : ∀ (args : Array Value) (W : World), (callFunc 141 args).run Tryz.prog W = .ok (.enter 141 args) W := fun _ _ => by kernel_rfl
theorem cf_ride : ∀ (args : Array Value) (W : World), (callFunc 143 args).run Tryz.prog W = .ok (.enter 143 args) W := fun _ _ => by kernel_rfl
theorem netS_eq (net : List (List T3)) : (net.map stopsL).map bs = netS net := by
  unfold netS
  rw [List.map_map]
  rfl
section
variable {w0 : World} {R : Nat} {s : LSt} {l : List UInt8}
theorem line_coaches (hE : Env w0) (hok : StOk s) (hl : l.length ≤ 1000) (hc : cutL 32 l = [coachesW]) : LineDoes w0 R s l := by
  refine line_of hE hl hc cmd_coaches (.inl rfl) cf_coaches (s' := s) (o := some (s.net.map stopsL)) (out := netS s.net) (ok := true) ?_ (.inl ⟨rfl, _, rfl, (netS_eq _).symm⟩) (fun W' av' A n c hn ha hst hsl => ?_)
  · unfold cmdC
    rw [if_neg (by decide), if_neg (by decide), if_neg (by decide), if_neg (by decide), if_neg (by decide), if_pos rfl]
    rfl
  · exact timetables_any w0 R s av' A n c W' hst hok.2.1
theorem line_ride (hE : Env w0) (hok : StOk s) (hl : l.length ≤ 1000) {x y z u : List UInt8} (hc : cutL 32 l = [rideW, x, y, z, u]) : LineDoes w0 R s l := by
  have h6 := hok.2.1.2.2.1
  by_cases h : 0 ≤ postV 6 s.net (numL x) (numL y) (numL z) (numL u)
  · refine line_of hE hl hc cmd_ride (.inl rfl) cf_ride (s' := s) (o := some [ridesL (rideV 6 s.net (numL x) (numL y) (numL z) (numL u))]) (out := [bs (ridesL (rideV 6 s.net (numL x) (numL y) (numL z) (numL u)))]) (ok := true) ?_ (.inl ⟨rfl, _, rfl, rfl⟩) (fun W' av' A n c hn ha hst hsl => ?_)
    · unfold cmdC
      rw [if_neg (by decide), if_neg (by decide), if_neg (by decide), if_neg (by decide), if_neg (by decide), if_neg (by decide), if_neg (by decide), if_pos rfl]
      show rideC s [numL x, numL y, numL z, numL u] = _; unfold rideC; dsimp only
      rw [if_pos h]
    · subst hn
      have := ride_any w0 hE R s av' A c _ _ _ _ W' hst hsl (by omega) (netOk_len hok.2.1)
      rwa [decide_eq_true h] at this
  · refine line_of hE hl hc cmd_ride (.inl rfl) cf_ride (s' := s) (o := none) (out := [bs (ridesL (rideV 6 s.net (numL x) (numL y) (numL z) (numL u)))]) (ok := false) ?_ (.inr ⟨rfl, rfl⟩) (fun W' av' A n c hn ha hst hsl => ?_)
    · unfold cmdC
      rw [if_neg (by decide), if_neg (by decide), if_neg (by decide), if_neg (by decide), if_neg (by decide), if_neg (by decide), if_neg (by decide), if_pos rfl]
      show rideC s [numL x, numL y, numL z, numL u] = _; unfold rideC; dsimp only
      rw [if_neg h]
    · subst hn
      have := ride_any w0 hE R s av' A c _ _ _ _ W' hst hsl (by omega) (netOk_len hok.2.1)
      rwa [decide_eq_false h] at this
end
theorem bs_inj {a b : List UInt8} (h : bs a = bs b) : a = b := congrArg (fun s : ByteArray => s.data.toList) h
theorem cmdIn_miss {s t : ByteArray} {n : Int} {k : Nat} {l : List (ByteArray × Int × Nat)} (h : ¬ s = t) : cmdIn s ((t, n, k) :: l) = cmdIn s l := if_neg h
theorem cmd_unknown {wd : List UInt8} (h0 : wd ≠ roadW) (h1 : wd ≠ closeW) (h2 : wd ≠ farW) (h3 : wd ≠ wayW) (h4 : wd ≠ coachW) (h5 : wd ≠ coachesW) (h6 : wd ≠ postW) (h7 : wd ≠ rideW) (h8 : wd ≠ kindL true) (h9 : wd ≠ kindL false) (h10 : wd ≠ seatsL) : cmdOf (bs wd) = none := by
  have e : ∀ {x : List UInt8}, wd ≠ x → ¬ bs wd = bs x := fun h he => h (bs_inj he)
  exact (cmdIn_miss (e h0)).trans <| (cmdIn_miss (e h1)).trans <| (cmdIn_miss (e h2)).trans <| (cmdIn_miss (e h3)).trans <| (cmdIn_miss (e h4)).trans <| (cmdIn_miss (e h5)).trans <| (cmdIn_miss (e h6)).trans <| (cmdIn_miss (e h7)).trans <| (cmdIn_miss (e h8)).trans <| (cmdIn_miss (e h9)).trans <| (cmdIn_miss (e h10)).trans <| rfl
theorem cmdC_unknown {s : LSt} {wd : List UInt8} {ns : List Int} (h0 : wd ≠ roadW) (h1 : wd ≠ closeW) (h2 : wd ≠ farW) (h3 : wd ≠ wayW) (h4 : wd ≠ coachW) (h5 : wd ≠ coachesW) (h6 : wd ≠ postW) (h7 : wd ≠ rideW) (h8 : wd ≠ kindL true) (h9 : wd ≠ kindL false) (h10 : wd ≠ seatsL) : cmdC s wd ns = none := by
  unfold cmdC
  rw [if_neg h0, if_neg h1, if_neg h2, if_neg h3, if_neg h4, if_neg h5, if_neg h6, if_neg h7, if_neg h8, if_neg h9, if_neg h10]
theorem roadC_no {s : LSt} {ns : List Int} (h : ns.length ≠ 3) : roadC s ns = none := by
  unfold roadC
  split
  · exact absurd rfl h
  · rfl
theorem closeC_no {s : LSt} {ns : List Int} (h : ns.length ≠ 2) : closeC s ns = none := by
  unfold closeC
  split
  · exact absurd rfl h
  · rfl
theorem farC_no {s : LSt} {ns : List Int} (h : ns.length ≠ 2) : farC s ns = none := by
  unfold farC
  split
  · exact absurd rfl h
  · rfl
theorem wayC_no {s : LSt} {ns : List Int} (h : ns.length ≠ 2) : wayC s ns = none := by
  unfold wayC
  split
  · exact absurd rfl h
  · rfl
theorem coachC_no {s : LSt} {ns : List Int} (h : ¬ (0 < ns.length ∧ ns.length % 3 = 0)) : coachC s ns = none := by
  unfold coachC
  rw [if_neg h]
theorem coachesC_no {s : LSt} {ns : List Int} (h : ns.length ≠ 0) : coachesC s ns = none := by
  unfold coachesC
  split
  · exact absurd rfl h
  · rfl
theorem postC_no {s : LSt} {ns : List Int} (h : ns.length ≠ 4) : postC s ns = none := by
  unfold postC
  split
  · exact absurd rfl h
  · rfl
theorem rideC_no {s : LSt} {ns : List Int} (h : ns.length ≠ 4) : rideC s ns = none := by
  unfold rideC
  split
  · exact absurd rfl h
  · rfl
theorem insideC_no {s : LSt} {ns : List Int} (h : ns.length ≠ 2) : seatC s true ns = none := by
  unfold seatC
  split
  · exact absurd rfl h
  · rfl
theorem outsideC_no {s : LSt} {ns : List Int} (h : ns.length ≠ 2) : seatC s false ns = none := by
  unfold seatC
  split
  · exact absurd rfl h
  · rfl
theorem seatsC_no {s : LSt} {ns : List Int} (h : ns.length ≠ 0) : seatsC s ns = none := by
  unfold seatsC
  split
  · exact absurd rfl h
  · rfl
theorem list0 {α : Type} {ws : List α} (h : ws.length = 0) : ws = [] := List.eq_nil_of_length_eq_zero h
theorem list2 {α : Type} {ws : List α} (h : ws.length = 2) : ∃ x y, ws = [x, y] := by
  match ws, h with
  | [x, y], _ => exact ⟨x, y, rfl⟩
theorem list3 {α : Type} {ws : List α} (h : ws.length = 3) : ∃ x y z, ws = [x, y, z] := by
  match ws, h with
  | [x, y, z], _ => exact ⟨x, y, z, rfl⟩
theorem list4 {α : Type} {ws : List α} (h : ws.length = 4) : ∃ x y z u, ws = [x, y, z, u] := by
  match ws, h with
  | [x, y, z, u], _ => exact ⟨x, y, z, u, rfl⟩
/-- Every line. -/
theorem line_any {w0 : World} {R : Nat} {s : LSt} {l : List UInt8} (hE : Env w0) (hok : StOk s) (hl : l.length ≤ 998) : LineDoes w0 R s l := by
  cases hc : cutL 32 l with
  | nil => exact absurd hc (cutL_ne 32 l)
  | cons wd ws =>
    by_cases h0 : wd = roadW
    · subst h0
      by_cases hf : ws.length = 3
      · obtain ⟨x, y, z, rfl⟩ := list3 hf
        exact line_road hE hok (by omega) hc
      · refine line_unfit hE (by omega) hc cmd_road (fun h => by unfold Fits at h; rcases h with h | h <;> omega) ?_
        unfold cmdC
        rw [if_pos rfl]
        exact roadC_no (by rw [List.length_map]; exact hf)
    by_cases h1 : wd = closeW
    · subst h1
      by_cases hf : ws.length = 2
      · obtain ⟨x, y, rfl⟩ := list2 hf
        exact line_close hE hok (by omega) hc
      · refine line_unfit hE (by omega) hc cmd_close (fun h => by unfold Fits at h; rcases h with h | h <;> omega) ?_
        unfold cmdC
        rw [if_neg (by decide), if_pos rfl]
        exact closeC_no (by rw [List.length_map]; exact hf)
    by_cases h2 : wd = farW
    · subst h2
      by_cases hf : ws.length = 2
      · obtain ⟨x, y, rfl⟩ := list2 hf
        exact line_far hE hok (by omega) hc
      · refine line_unfit hE (by omega) hc cmd_far (fun h => by unfold Fits at h; rcases h with h | h <;> omega) ?_
        unfold cmdC
        rw [if_neg (by decide), if_neg (by decide), if_pos rfl]
        exact farC_no (by rw [List.length_map]; exact hf)
    by_cases h3 : wd = wayW
    · subst h3
      by_cases hf : ws.length = 2
      · obtain ⟨x, y, rfl⟩ := list2 hf
        exact line_way hE hok (by omega) hc
      · refine line_unfit hE (by omega) hc cmd_way (fun h => by unfold Fits at h; rcases h with h | h <;> omega) ?_
        unfold cmdC
        rw [if_neg (by decide), if_neg (by decide), if_neg (by decide), if_pos rfl]
        exact wayC_no (by rw [List.length_map]; exact hf)
    by_cases h4 : wd = coachW
    · subst h4
      by_cases hf : 0 < ws.length ∧ ws.length % 3 = 0
      · exact line_coach hE hok hl hc hf
      · refine line_unfit hE (by omega) hc cmd_coach (fun h => by unfold Fits at h; rcases h with h | h <;> omega) ?_
        unfold cmdC
        rw [if_neg (by decide), if_neg (by decide), if_neg (by decide), if_neg (by decide), if_pos rfl]
        exact coachC_no (by rw [List.length_map]; exact hf)
    by_cases h5 : wd = coachesW
    · subst h5
      by_cases hf : ws.length = 0
      · obtain rfl := list0 hf
        exact line_coaches hE hok (by omega) hc
      · refine line_unfit hE (by omega) hc cmd_coaches (fun h => by unfold Fits at h; rcases h with h | h <;> omega) ?_
        unfold cmdC
        rw [if_neg (by decide), if_neg (by decide), if_neg (by decide), if_neg (by decide), if_neg (by decide), if_pos rfl]
        exact coachesC_no (by rw [List.length_map]; exact hf)
    by_cases h6 : wd = postW
    · subst h6
      by_cases hf : ws.length = 4
      · obtain ⟨x, y, z, u, rfl⟩ := list4 hf
        exact line_post hE hok (by omega) hc
      · refine line_unfit hE (by omega) hc cmd_post (fun h => by unfold Fits at h; rcases h with h | h <;> omega) ?_
        unfold cmdC
        rw [if_neg (by decide), if_neg (by decide), if_neg (by decide), if_neg (by decide), if_neg (by decide), if_neg (by decide), if_pos rfl]
        exact postC_no (by rw [List.length_map]; exact hf)
    by_cases h7 : wd = rideW
    · subst h7
      by_cases hf : ws.length = 4
      · obtain ⟨x, y, z, u, rfl⟩ := list4 hf
        exact line_ride hE hok (by omega) hc
      · refine line_unfit hE (by omega) hc cmd_ride (fun h => by unfold Fits at h; rcases h with h | h <;> omega) ?_
        unfold cmdC
        rw [if_neg (by decide), if_neg (by decide), if_neg (by decide), if_neg (by decide), if_neg (by decide), if_neg (by decide), if_neg (by decide), if_pos rfl]
        exact rideC_no (by rw [List.length_map]; exact hf)
    by_cases h8 : wd = kindL true
    · subst h8
      by_cases hf : ws.length = 2
      · obtain ⟨x, y, rfl⟩ := list2 hf
        exact line_seat hE hok (by omega) true hc
      · refine line_unfit hE (by omega) hc cmd_inside (fun h => by unfold Fits at h; rcases h with h | h <;> omega) ?_
        unfold cmdC
        rw [if_neg (by decide), if_neg (by decide), if_neg (by decide), if_neg (by decide), if_neg (by decide), if_neg (by decide), if_neg (by decide), if_neg (by decide), if_pos rfl]
        exact insideC_no (by rw [List.length_map]; exact hf)
    by_cases h9 : wd = kindL false
    · subst h9
      by_cases hf : ws.length = 2
      · obtain ⟨x, y, rfl⟩ := list2 hf
        exact line_seat hE hok (by omega) false hc
      · refine line_unfit hE (by omega) hc cmd_outside (fun h => by unfold Fits at h; rcases h with h | h <;> omega) ?_
        unfold cmdC
        rw [if_neg (by decide), if_neg (by decide), if_neg (by decide), if_neg (by decide), if_neg (by decide), if_neg (by decide), if_neg (by decide), if_neg (by decide), if_neg (by decide), if_pos rfl]
        exact outsideC_no (by rw [List.length_map]; exact hf)
    by_cases h10 : wd = seatsL
    · subst h10
      by_cases hf : ws.length = 0
      · obtain rfl := list0 hf
        exact line_seats hE hok (by omega) hc
      · refine line_unfit hE (by omega) hc cmd_seats (fun h => by unfold Fits at h; rcases h with h | h <;> omega) ?_
        unfold cmdC
        rw [if_neg (by decide), if_neg (by decide), if_neg (by decide), if_neg (by decide), if_neg (by decide), if_neg (by decide), if_neg (by decide), if_neg (by decide), if_neg (by decide), if_neg (by decide), if_pos rfl]
        exact seatsC_no (by rw [List.length_map]; exact hf)
    exact line_unknown hE (by omega) hc (cmd_unknown h0 h1 h2 h3 h4 h5 h6 h7 h8 h9 h10) (cmdC_unknown h0 h1 h2 h3 h4 h5 h6 h7 h8 h9 h10)
theorem cutL_part (c : UInt8) : ∀ (l : List UInt8), ∀ x ∈ cutL c l, x.length ≤ l.length
  | [], x, h => by
    rw [List.mem_singleton.1 h]
    exact Nat.le_refl _
  | b :: l, x, h => by
    unfold cutL at h
    split at h
    · rcases List.mem_cons.1 h with rfl | h
      · exact Nat.zero_le _
      · have := cutL_part c l x h
        rw [List.length_cons]
        omega
    · split at h
      · rename_i p ps hp
        rcases List.mem_cons.1 h with rfl | h
        · have := cutL_part c l p (by rw [hp]; exact List.mem_cons_self ..)
          rw [List.length_cons, List.length_cons]
          omega
        · have := cutL_part c l x (by rw [hp]; exact List.mem_cons_of_mem _ h)
          rw [List.length_cons]
          omega
      · rw [List.mem_singleton.1 h]
        simp
/-- The program runs any script. -/
theorem implExecute_any (s : ByteArray) (ls : List (List UInt8)) (last : List UInt8) (w : World) (hm : Env w) (hs : s.size ≤ 500) (hc : cutL 10 s.data.toList = ls ++ [last]) :
    Calls Tryz.prog 11 #[.string s] w (Only (.string (bs (scriptOut ls))) w) :=
  execute_script s ls last w hm hs hc fun j l hl R => line_any hm (scr_ok ls j) (by
    have h1 := cutL_part 10 s.data.toList l (by rw [hc]; exact List.mem_append_left _ (List.mem_of_getElem? hl))
    have h2 : s.data.toList.length = s.size := by simp
    omega)
def longL : List UInt8 := [116, 111, 111, 32, 108, 111, 110, 103, 10]
set_option maxRecDepth 20000 in
theorem implExecute_long (s : ByteArray) (w : World) (hs : 500 < s.size) :
    Calls Tryz.prog 11 #[.string s] w (Only (.string (bs longL)) w) := by
  have i0 : 500 < (s.size : Int) := by omega
  go_enter Tryz.func11, Tryz.ntmps11
  go_wp2_with fail
  go_ret
  exact ⟨rfl, Below.refl _ _⟩
end Go.Proofs.YtgjllminidlolaaGreatDoor
/- Contracts: a line of the reference, any words. -/
set_option linter.unusedVariables false
namespace Go.Proofs.YtgjllminidlolaaGreatDoor
open Go.RowKit

theorem said_ans {s : LSt} {p : Prop} {d d' : Decidable p} {x y : List UInt8} (h : p → x = y) : saidL x (@decide p d) = textOf (ansOut (some (s, @ite _ p d' (some [y]) none))) := by
  by_cases hp : p
  · rw [if_pos hp, @decide_eq_true p d hp, h hp]
    simp [saidL, ansOut, textOf]
  · rw [if_neg hp, @decide_eq_false p d hp]
    rfl
theorem cmdC_road (s : LSt) (ns : List Int) : cmdC s roadW ns = roadC s ns := by
  unfold cmdC
  rw [if_pos rfl]
theorem cmdC_close (s : LSt) (ns : List Int) : cmdC s closeW ns = closeC s ns := by
  unfold cmdC
  rw [if_neg (by decide), if_pos rfl]
theorem cmdC_far (s : LSt) (ns : List Int) : cmdC s farW ns = farC s ns := by
  unfold cmdC
  rw [if_neg (by decide), if_neg (by decide), if_pos rfl]
theorem cmdC_way (s : LSt) (ns : List Int) : cmdC s wayW ns = wayC s ns := by
  unfold cmdC
  rw [if_neg (by decide), if_neg (by decide), if_neg (by decide), if_pos rfl]
theorem cmdC_coach (s : LSt) (ns : List Int) : cmdC s coachW ns = coachC s ns := by
  unfold cmdC
  rw [if_neg (by decide), if_neg (by decide), if_neg (by decide), if_neg (by decide), if_pos rfl]
theorem cmdC_coaches (s : LSt) (ns : List Int) : cmdC s coachesW ns = coachesC s ns := by
  unfold cmdC
  rw [if_neg (by decide), if_neg (by decide), if_neg (by decide), if_neg (by decide), if_neg (by decide), if_pos rfl]
theorem cmdC_post (s : LSt) (ns : List Int) : cmdC s postW ns = postC s ns := by
  unfold cmdC
  rw [if_neg (by decide), if_neg (by decide), if_neg (by decide), if_neg (by decide), if_neg (by decide), if_neg (by decide), if_pos rfl]
theorem cmdC_ride (s : LSt) (ns : List Int) : cmdC s rideW ns = rideC s ns := by
  unfold cmdC
  rw [if_neg (by decide), if_neg (by decide), if_neg (by decide), if_neg (by decide), if_neg (by decide), if_neg (by decide), if_neg (by decide), if_pos rfl]
theorem cmdC_inside (s : LSt) (ns : List Int) : cmdC s (kindL true) ns = seatC s true ns := by
  unfold cmdC
  rw [if_neg (by decide), if_neg (by decide), if_neg (by decide), if_neg (by decide), if_neg (by decide), if_neg (by decide), if_neg (by decide), if_neg (by decide), if_pos rfl]
theorem cmdC_outside (s : LSt) (ns : List Int) : cmdC s (kindL false) ns = seatC s false ns := by
  unfold cmdC
  rw [if_neg (by decide), if_neg (by decide), if_neg (by decide), if_neg (by decide), if_neg (by decide), if_neg (by decide), if_neg (by decide), if_neg (by decide), if_neg (by decide), if_pos rfl]
theorem cmdC_seats (s : LSt) (ns : List Int) : cmdC s seatsL ns = seatsC s ns := by
  unfold cmdC
  rw [if_neg (by decide), if_neg (by decide), if_neg (by decide), if_neg (by decide), if_neg (by decide), if_neg (by decide), if_neg (by decide), if_neg (by decide), if_neg (by decide), if_neg (by decide), if_pos rfl]
set_option maxRecDepth 20000 in
/-- A line of the reference. -/
theorem l10Line_any (Ar : Option Addr) (cr : Nat) (An : Option Addr) (cn : Nat) (Ab : Option Addr) (cb : Nat) (s : LSt) (B : Option Addr) (n c : Nat) (wd : List UInt8) (ws : List (List UInt8)) (w : World) (hS : SpS w Ar cr An cn Ab cb s) (hok : StOk s) (hw : SlE 1 encS w B n ((wd :: ws).map bs)) (hn : n ≤ 1000) :
    Calls Tryz.prog 40 #[.agg #[.slice Ar s.roads.length cr, .slice An s.net.length cn, .slice Ab s.list.length cb], .slice B n c] w (LineRet Ar An Ab s (ansSt s (cmdC s wd (ws.map numL))) (textOf (ansOut (cmdC s wd (ws.map numL)))) w) := by
  obtain ⟨hR, hNt, hB, hrc⟩ := hS
  have hnl : n = ws.length + 1 := by rw [← hw.len]; simp
  have hno : ∀ (wd' : List UInt8) (ws' : List (List UInt8)) W, Below w.heap.size w W → SlE 1 encS w B n ((wd' :: ws').map bs) → wd' ≠ [102, 97, 114] → wd' ≠ [119, 97, 121] → wd' ≠ [99, 111, 97, 99, 104, 101, 115] → wd' ≠ [112, 111, 115, 116] → wd' ≠ [114, 105, 100, 101] → wd' ≠ [115, 101, 97, 116, 115] → Calls Tryz.prog 77 #[.agg #[.slice Ar s.roads.length cr, .slice An s.net.length cn, .slice Ab s.list.length cb], .slice B n c] W (Only (.string (bs (textOf (ansOut none)))) W) :=
    fun wd' ws' W hW hw' h0 h1 h2 h3 h4 h5 => l10Ask_no_other Ar s.roads.length cr An s.net.length cn Ab s.list.length cb s B n c wd' ws' h0 h1 h2 h3 h4 h5 W (hR.below hW) (hNt.below hW) (hB.below hW) hok (hw'.below hW) (by omega)
  by_cases h0 : wd = roadW
  · subst h0
    rw [cmdC_road]
    by_cases hf : ws.length = 3
    · obtain ⟨x, y, z, rfl⟩ := list3 hf
      show Calls _ _ _ _ (LineRet Ar An Ab s (ansSt s (roadC s [numL x, numL y, numL z])) (textOf (ansOut (roadC s [numL x, numL y, numL z]))) w)
      unfold roadC
      dsimp only
      by_cases h : RoadOk 6 (s.roads ++ [⟨numL x, numL y, numL z⟩])
      · rw [if_pos h]
        exact l10Line_road Ar s.roads.length cr An s.net.length cn Ab s.list.length cb s B n c x y z (s.roads ++ [⟨numL x, numL y, numL z⟩]) true { s with roads := s.roads ++ [⟨numL x, numL y, numL z⟩] } [111, 107, 10] w hR hNt hB hok hrc hw (.inl ⟨rfl, h, rfl⟩) (.inl ⟨rfl, rfl, rfl⟩)
      · rw [if_neg h]
        exact l10Line_road Ar s.roads.length cr An s.net.length cn Ab s.list.length cb s B n c x y z [] false s [110, 111, 10] w hR hNt hB hok hrc hw (.inr ⟨rfl, h, rfl⟩) (.inr ⟨rfl, rfl, rfl⟩)
    · rw [roadC_no (by rw [List.length_map]; exact hf)]
      exact l10Line_no_road Ar s.roads.length cr An s.net.length cn Ab s.list.length cb s B n c ws hf _ w hR hNt hB hok hrc hw (fun W hW => hno [114, 111, 97, 100] ws W hW hw (by decide) (by decide) (by decide) (by decide) (by decide) (by decide)) (by omega)
  by_cases h1 : wd = closeW
  · subst h1
    rw [cmdC_close]
    by_cases hf : ws.length = 2
    · obtain ⟨x, y, rfl⟩ := list2 hf
      show Calls _ _ _ _ (LineRet Ar An Ab s (ansSt s (closeC s [numL x, numL y])) (textOf (ansOut (closeC s [numL x, numL y]))) w)
      unfold closeC
      dsimp only
      by_cases h : RoadOk 6 s.roads ∧ 0 ≤ fndR s.roads (numL x) (numL y)
      · rw [if_pos h]
        exact l10Line_close Ar s.roads.length cr An s.net.length cn Ab s.list.length cb s B n c x y (s.roads.eraseIdx (fndR s.roads (numL x) (numL y)).toNat) true { s with roads := s.roads.eraseIdx (fndR s.roads (numL x) (numL y)).toNat } [111, 107, 10] w hR hNt hB hok hrc hw (.inl ⟨rfl, h.1, h.2, rfl⟩) (.inl ⟨rfl, rfl, rfl⟩)
      · rw [if_neg h]
        exact l10Line_close Ar s.roads.length cr An s.net.length cn Ab s.list.length cb s B n c x y [] false s [110, 111, 10] w hR hNt hB hok hrc hw (.inr ⟨rfl, h, rfl⟩) (.inr ⟨rfl, rfl, rfl⟩)
    · rw [closeC_no (by rw [List.length_map]; exact hf)]
      exact l10Line_no_close Ar s.roads.length cr An s.net.length cn Ab s.list.length cb s B n c ws hf _ w hR hNt hB hok hrc hw (fun W hW => hno [99, 108, 111, 115, 101] ws W hW hw (by decide) (by decide) (by decide) (by decide) (by decide) (by decide)) (by omega)
  by_cases h2 : wd = farW
  · subst h2
    rw [cmdC_far]
    by_cases hf : ws.length = 2
    · obtain ⟨x, y, rfl⟩ := list2 hf
      show Calls _ _ _ _ (LineRet Ar An Ab s (ansSt s (farC s [numL x, numL y])) (textOf (ansOut (farC s [numL x, numL y]))) w)
      unfold farC
      dsimp only
      rw [← said_ans (fun h => itoa_dec h)]
      exact l10Line_ask Ar s.roads.length cr An s.net.length cn Ab s.list.length cb s B n c farW [x, y] (by decide) (by decide) (by decide) (by decide) (by decide) _ w hR hNt hB hok hrc hw (fun W hW => l10Ask_far Ar s.roads.length cr An s.net.length cn Ab s.list.length cb s B n c x y W (hR.below hW) (hNt.below hW) (hB.below hW) hok (hw.below hW) (by omega)) (by omega)
    · rw [farC_no (by rw [List.length_map]; exact hf)]
      exact l10Line_ask Ar s.roads.length cr An s.net.length cn Ab s.list.length cb s B n c farW ws (by decide) (by decide) (by decide) (by decide) (by decide) _ w hR hNt hB hok hrc hw (fun W hW => l10Ask_no_far Ar s.roads.length cr An s.net.length cn Ab s.list.length cb s B n c ws hf W (hR.below hW) (hNt.below hW) (hB.below hW) hok (hw.below hW) (by omega)) (by omega)
  by_cases h3 : wd = wayW
  · subst h3
    rw [cmdC_way]
    by_cases hf : ws.length = 2
    · obtain ⟨x, y, rfl⟩ := list2 hf
      show Calls _ _ _ _ (LineRet Ar An Ab s (ansSt s (wayC s [numL x, numL y])) (textOf (ansOut (wayC s [numL x, numL y]))) w)
      unfold wayC
      dsimp only
      rw [← said_ans (fun _ => rfl)]
      exact l10Line_ask Ar s.roads.length cr An s.net.length cn Ab s.list.length cb s B n c wayW [x, y] (by decide) (by decide) (by decide) (by decide) (by decide) _ w hR hNt hB hok hrc hw (fun W hW => l10Ask_way Ar s.roads.length cr An s.net.length cn Ab s.list.length cb s B n c x y W (hR.below hW) (hNt.below hW) (hB.below hW) hok (hw.below hW) (by omega)) (by omega)
    · rw [wayC_no (by rw [List.length_map]; exact hf)]
      exact l10Line_ask Ar s.roads.length cr An s.net.length cn Ab s.list.length cb s B n c wayW ws (by decide) (by decide) (by decide) (by decide) (by decide) _ w hR hNt hB hok hrc hw (fun W hW => l10Ask_no_way Ar s.roads.length cr An s.net.length cn Ab s.list.length cb s B n c ws hf W (hR.below hW) (hNt.below hW) (hB.below hW) hok (hw.below hW) (by omega)) (by omega)
  by_cases h4 : wd = coachW
  · subst h4
    rw [cmdC_coach]
    by_cases hf : 0 < ws.length ∧ ws.length % 3 = 0
    · skip
      unfold coachC
      rw [if_pos (by rw [List.length_map]; exact hf)]
      by_cases h : NetOk 6 (s.net ++ [tripL (ws.map numL)])
      · rw [if_pos h]
        exact l10Line_coach Ar s.roads.length cr An s.net.length cn Ab s.list.length cb s B n c ws (s.net ++ [tripL (ws.map numL)]) true { s with net := s.net ++ [tripL (ws.map numL)] } [111, 107, 10] w hR hNt hB hok hrc hw hf (by omega) (.inl ⟨rfl, h, rfl⟩) (.inl ⟨rfl, rfl, rfl⟩)
      · rw [if_neg h]
        exact l10Line_coach Ar s.roads.length cr An s.net.length cn Ab s.list.length cb s B n c ws [] false s [110, 111, 10] w hR hNt hB hok hrc hw hf (by omega) (.inr ⟨rfl, h, rfl⟩) (.inr ⟨rfl, rfl, rfl⟩)
    · rw [coachC_no (by rw [List.length_map]; exact hf)]
      exact l10Line_no_coach Ar s.roads.length cr An s.net.length cn Ab s.list.length cb s B n c ws hf _ w hR hNt hB hok hrc hw (fun W hW => hno [99, 111, 97, 99, 104] ws W hW hw (by decide) (by decide) (by decide) (by decide) (by decide) (by decide)) (by omega)
  by_cases h5 : wd = coachesW
  · subst h5
    rw [cmdC_coaches]
    by_cases hf : ws.length = 0
    · obtain rfl := list0 hf
      exact l10Line_ask Ar s.roads.length cr An s.net.length cn Ab s.list.length cb s B n c coachesW [] (by decide) (by decide) (by decide) (by decide) (by decide) _ w hR hNt hB hok hrc hw (fun W hW => l10Ask_coaches Ar s.roads.length cr An s.net.length cn Ab s.list.length cb s B n c  W (hR.below hW) (hNt.below hW) (hB.below hW) hok (hw.below hW) (by omega)) (by omega)
    · rw [coachesC_no (by rw [List.length_map]; exact hf)]
      exact l10Line_ask Ar s.roads.length cr An s.net.length cn Ab s.list.length cb s B n c coachesW ws (by decide) (by decide) (by decide) (by decide) (by decide) _ w hR hNt hB hok hrc hw (fun W hW => l10Ask_no_coaches Ar s.roads.length cr An s.net.length cn Ab s.list.length cb s B n c ws hf W (hR.below hW) (hNt.below hW) (hB.below hW) hok (hw.below hW) (by omega)) (by omega)
  by_cases h6 : wd = postW
  · subst h6
    rw [cmdC_post]
    by_cases hf : ws.length = 4
    · obtain ⟨x, y, z, u, rfl⟩ := list4 hf
      show Calls _ _ _ _ (LineRet Ar An Ab s (ansSt s (postC s [numL x, numL y, numL z, numL u])) (textOf (ansOut (postC s [numL x, numL y, numL z, numL u]))) w)
      unfold postC
      dsimp only
      rw [← said_ans (fun h => itoa_dec h)]
      exact l10Line_ask Ar s.roads.length cr An s.net.length cn Ab s.list.length cb s B n c postW [x, y, z, u] (by decide) (by decide) (by decide) (by decide) (by decide) _ w hR hNt hB hok hrc hw (fun W hW => l10Ask_post Ar s.roads.length cr An s.net.length cn Ab s.list.length cb s B n c x y z u W (hR.below hW) (hNt.below hW) (hB.below hW) hok (hw.below hW) (by omega)) (by omega)
    · rw [postC_no (by rw [List.length_map]; exact hf)]
      exact l10Line_ask Ar s.roads.length cr An s.net.length cn Ab s.list.length cb s B n c postW ws (by decide) (by decide) (by decide) (by decide) (by decide) _ w hR hNt hB hok hrc hw (fun W hW => l10Ask_no_post Ar s.roads.length cr An s.net.length cn Ab s.list.length cb s B n c ws hf W (hR.below hW) (hNt.below hW) (hB.below hW) hok (hw.below hW) (by omega)) (by omega)
  by_cases h7 : wd = rideW
  · subst h7
    rw [cmdC_ride]
    by_cases hf : ws.length = 4
    · obtain ⟨x, y, z, u, rfl⟩ := list4 hf
      show Calls _ _ _ _ (LineRet Ar An Ab s (ansSt s (rideC s [numL x, numL y, numL z, numL u])) (textOf (ansOut (rideC s [numL x, numL y, numL z, numL u]))) w)
      unfold rideC
      dsimp only
      rw [← said_ans (fun _ => rfl)]
      exact l10Line_ask Ar s.roads.length cr An s.net.length cn Ab s.list.length cb s B n c rideW [x, y, z, u] (by decide) (by decide) (by decide) (by decide) (by decide) _ w hR hNt hB hok hrc hw (fun W hW => l10Ask_ride Ar s.roads.length cr An s.net.length cn Ab s.list.length cb s B n c x y z u W (hR.below hW) (hNt.below hW) (hB.below hW) hok (hw.below hW) (by omega)) (by omega)
    · rw [rideC_no (by rw [List.length_map]; exact hf)]
      exact l10Line_ask Ar s.roads.length cr An s.net.length cn Ab s.list.length cb s B n c rideW ws (by decide) (by decide) (by decide) (by decide) (by decide) _ w hR hNt hB hok hrc hw (fun W hW => l10Ask_no_ride Ar s.roads.length cr An s.net.length cn Ab s.list.length cb s B n c ws hf W (hR.below hW) (hNt.below hW) (hB.below hW) hok (hw.below hW) (by omega)) (by omega)
  by_cases h8 : wd = kindL true
  · subst h8
    rw [cmdC_inside]
    by_cases hf : ws.length = 2
    · obtain ⟨x, y, rfl⟩ := list2 hf
      show Calls _ _ _ _ (LineRet Ar An Ab s (ansSt s (seatC s true [numL x, numL y])) (textOf (ansOut (seatC s true [numL x, numL y]))) w)
      unfold seatC
      dsimp only
      by_cases h : BookOk 5 (s.list ++ [⟨numL x, numL y, true⟩])
      · rw [if_pos h]
        exact l10Line_inside Ar s.roads.length cr An s.net.length cn Ab s.list.length cb s B n c x y (s.list ++ [⟨numL x, numL y, true⟩]) true { s with list := s.list ++ [⟨numL x, numL y, true⟩] } [111, 107, 10] w hR hNt hB hok hrc hw (.inl ⟨rfl, ⟨hok.2.2, h⟩, rfl⟩) (.inl ⟨rfl, rfl, rfl⟩)
      · rw [if_neg h]
        exact l10Line_inside Ar s.roads.length cr An s.net.length cn Ab s.list.length cb s B n c x y [] false s [110, 111, 10] w hR hNt hB hok hrc hw (.inr ⟨rfl, fun hh => h hh.2, rfl⟩) (.inr ⟨rfl, rfl, rfl⟩)
    · rw [insideC_no (by rw [List.length_map]; exact hf)]
      exact l10Line_no_inside Ar s.roads.length cr An s.net.length cn Ab s.list.length cb s B n c ws hf _ w hR hNt hB hok hrc hw (fun W hW => hno [105, 110, 115, 105, 100, 101] ws W hW hw (by decide) (by decide) (by decide) (by decide) (by decide) (by decide)) (by omega)
  by_cases h9 : wd = kindL false
  · subst h9
    rw [cmdC_outside]
    by_cases hf : ws.length = 2
    · obtain ⟨x, y, rfl⟩ := list2 hf
      show Calls _ _ _ _ (LineRet Ar An Ab s (ansSt s (seatC s false [numL x, numL y])) (textOf (ansOut (seatC s false [numL x, numL y]))) w)
      unfold seatC
      dsimp only
      by_cases h : BookOk 5 (s.list ++ [⟨numL x, numL y, false⟩])
      · rw [if_pos h]
        exact l10Line_outside Ar s.roads.length cr An s.net.length cn Ab s.list.length cb s B n c x y (s.list ++ [⟨numL x, numL y, false⟩]) true { s with list := s.list ++ [⟨numL x, numL y, false⟩] } [111, 107, 10] w hR hNt hB hok hrc hw (.inl ⟨rfl, ⟨hok.2.2, h⟩, rfl⟩) (.inl ⟨rfl, rfl, rfl⟩)
      · rw [if_neg h]
        exact l10Line_outside Ar s.roads.length cr An s.net.length cn Ab s.list.length cb s B n c x y [] false s [110, 111, 10] w hR hNt hB hok hrc hw (.inr ⟨rfl, fun hh => h hh.2, rfl⟩) (.inr ⟨rfl, rfl, rfl⟩)
    · rw [outsideC_no (by rw [List.length_map]; exact hf)]
      exact l10Line_no_outside Ar s.roads.length cr An s.net.length cn Ab s.list.length cb s B n c ws hf _ w hR hNt hB hok hrc hw (fun W hW => hno [111, 117, 116, 115, 105, 100, 101] ws W hW hw (by decide) (by decide) (by decide) (by decide) (by decide) (by decide)) (by omega)
  by_cases h10 : wd = seatsL
  · subst h10
    rw [cmdC_seats]
    by_cases hf : ws.length = 0
    · obtain rfl := list0 hf
      show Calls _ _ _ _ (LineRet Ar An Ab s (ansSt s (seatsC s [])) (textOf (ansOut (seatsC s []))) w)
      unfold seatsC
      dsimp only
      rw [if_pos hok.2.2, show textOf (ansOut (some (s, some [spacedL (plan s.list 5)]))) = saidL (spacedL (plan s.list 5)) true by simp [saidL, ansOut, textOf]]
      exact l10Line_ask Ar s.roads.length cr An s.net.length cn Ab s.list.length cb s B n c seatsL [] (by decide) (by decide) (by decide) (by decide) (by decide) _ w hR hNt hB hok hrc hw (fun W hW => l10Ask_seats Ar s.roads.length cr An s.net.length cn Ab s.list.length cb s B n c  W (hR.below hW) (hNt.below hW) (hB.below hW) hok (hw.below hW) (by omega)) (by omega)
    · rw [seatsC_no (by rw [List.length_map]; exact hf)]
      exact l10Line_ask Ar s.roads.length cr An s.net.length cn Ab s.list.length cb s B n c seatsL ws (by decide) (by decide) (by decide) (by decide) (by decide) _ w hR hNt hB hok hrc hw (fun W hW => l10Ask_no_seats Ar s.roads.length cr An s.net.length cn Ab s.list.length cb s B n c ws hf W (hR.below hW) (hNt.below hW) (hB.below hW) hok (hw.below hW) (by omega)) (by omega)
  rw [cmdC_unknown h0 h1 h2 h3 h4 h5 h6 h7 h8 h9 h10]
  exact l10Line_ask Ar s.roads.length cr An s.net.length cn Ab s.list.length cb s B n c wd ws h0 h1 h4 h8 h9 _ w hR hNt hB hok hrc hw (fun W hW => hno wd ws W hW hw h2 h3 h5 h6 h7 h10) (by omega)
end Go.Proofs.YtgjllminidlolaaGreatDoor
/- Plain mathematics of the laws of scripts: the text up to its last newline, the last line of the output, more lines. -/
set_option linter.unusedVariables false
namespace Go.Proofs.YtgjllminidlolaaGreatDoor

theorem cut_parts : ∀ l : List UInt8, ∃ ls last, cutL 10 l = ls ++ [last] ∧ l = textOf ls ++ last ∧ (10 : UInt8) ∉ last ∧ ∀ x ∈ ls, (10 : UInt8) ∉ x
  | [] => ⟨[], [], rfl, rfl, by simp, fun x hx => by cases hx⟩
  | b :: l => by
    obtain ⟨ls, last, h1, h2, h3, h4⟩ := cut_parts l
    by_cases hb : b = 10
    · subst hb
      refine ⟨[] :: ls, last, by rw [cutL, if_pos rfl, h1]; rfl, by rw [h2]; simp [textOf], h3, fun x hx => ?_⟩
      rcases List.mem_cons.1 hx with rfl | hx
      · simp
      · exact h4 x hx
    · cases ls with
      | nil =>
        refine ⟨[], b :: last, by rw [cutL, if_neg hb, h1]; rfl, by rw [h2]; rfl, ?_, fun x hx => by cases hx⟩
        intro h
        rcases List.mem_cons.1 h with h | h
        · exact hb h.symm
        · exact h3 h
      | cons y ls =>
        refine ⟨(b :: y) :: ls, last, by rw [cutL, if_neg hb, h1]; rfl, by rw [h2]; simp [textOf], h3, fun x hx => ?_⟩
        rcases List.mem_cons.1 hx with rfl | hx
        · intro h
          rcases List.mem_cons.1 h with h | h
          · exact hb h.symm
          · exact h4 y (List.mem_cons_self ..) h
        · exact h4 x (List.mem_cons_of_mem _ hx)
theorem textOf_form {ls : List (List UInt8)} (h : ls ≠ []) : ∃ t, textOf ls = t ++ [10] := by
  obtain ⟨init, x, rfl⟩ : ∃ init x, ls = init ++ [x] := ⟨_, _, (List.dropLast_concat_getLast h).symm⟩
  exact ⟨textOf init ++ x, by rw [textOf_snoc, List.append_assoc]⟩
/-- The text up to its last newline. -/
theorem complete_at {ls : List (List UInt8)} {l last : List UInt8} (h : l = textOf ls ++ last) (h10 : (10 : UInt8) ∉ last) {i : Nat} (hl : l[i]? = some 10) (hn : ∀ k, i < k → l[k]? ≠ some 10) : l.take (i + 1) = textOf ls := by
  subst h
  by_cases hi : i < (textOf ls).length
  · have hne : ls ≠ [] := fun e => by rw [e] at hi; exact absurd hi (by simp [textOf])
    obtain ⟨t, ht⟩ := textOf_form hne
    rw [ht] at hl hn hi ⊢
    have h1 : (t ++ [10] ++ last)[t.length]? = some 10 := by simp
    have h2 : ¬ i < t.length := fun h => hn _ h h1
    rw [List.length_append, List.length_singleton] at hi
    obtain rfl : i = t.length := by omega
    rw [List.take_append_of_le_length (by simp)]
    rw [List.take_of_length_le (by simp)]
  · rw [List.getElem?_append_right (by omega)] at hl
    exact absurd (List.mem_of_getElem? hl) h10
theorem complete_none {ls : List (List UInt8)} {l last : List UInt8} (h : l = textOf ls ++ last) (hn : ∀ k : Nat, l[k]? ≠ some 10) : textOf ls = [] := by
  subst h
  by_cases hne : ls = []
  · rw [hne]; rfl
  · obtain ⟨t, ht⟩ := textOf_form hne
    exfalso
    refine hn t.length ?_
    rw [ht]
    simp
/-- The last line of the output. -/
theorem lastL_at {os : List (List UInt8)} {l e : List UInt8} (h : l = textOf os ++ (e ++ [10])) (h10 : (10 : UInt8) ∉ e) {i : Nat} (hi : i + 1 < l.length) (hl : l[i]? = some 10) (hn : ∀ k, i < k → k + 1 < l.length → l[k]? ≠ some 10) : l.drop (i + 1) = e ++ [10] := by
  subst h
  have hlen : (textOf os ++ (e ++ [10])).length = (textOf os).length + e.length + 1 := by simp; omega
  by_cases hi2 : i < (textOf os).length
  · have hne : os ≠ [] := fun e => by rw [e] at hi2; exact absurd hi2 (by simp [textOf])
    obtain ⟨t, ht⟩ := textOf_form hne
    rw [ht] at hl hn hi hi2 hlen ⊢
    have h1 : (t ++ [10] ++ (e ++ [10]))[t.length]? = some 10 := by simp
    have h2 : ¬ i < t.length := fun h => hn _ h (by rw [hlen]; simp; omega) h1
    rw [List.length_append, List.length_singleton] at hi2
    obtain rfl : i = t.length := by omega
    rw [show t.length + 1 = (t ++ [10]).length by simp, List.drop_left]
  · rw [List.getElem?_append_right (by omega)] at hl
    rw [hlen] at hi
    rw [List.getElem?_append_left (by omega)] at hl
    exact absurd (List.mem_of_getElem? hl) h10
theorem lastL_none {os : List (List UInt8)} {l e : List UInt8} (h : l = textOf os ++ (e ++ [10])) (hn : ∀ k, k + 1 < l.length → l[k]? ≠ some 10) : l = e ++ [10] := by
  subst h
  by_cases hne : os = []
  · rw [hne]; rfl
  · obtain ⟨t, ht⟩ := textOf_form hne
    exfalso
    refine hn t.length (by rw [ht]; simp) ?_
    rw [ht]
    simp
theorem endL_no (a b c : Nat) : (10 : UInt8) ∉ endL a b c := by
  unfold endL
  simp only [List.mem_append, not_or]
  exact ⟨⟨⟨⟨⟨by decide, decDigits_mem _ _ rfl⟩, by decide⟩, decDigits_mem _ _ rfl⟩, by decide⟩, decDigits_mem _ _ rfl⟩

/-! ### More lines -/
theorem scrS_app {ls ms : List (List UInt8)} : ∀ j, j ≤ ls.length → scrS (ls ++ ms) j = scrS ls j
  | 0, _ => rfl
  | j + 1, h => by
    obtain ⟨l, hl⟩ : ∃ l, ls[j]? = some l := ⟨_, List.getElem?_eq_getElem (by omega)⟩
    rw [scrS_next hl, scrS_next (ls := ls ++ ms) (by rw [List.getElem?_append_left (by omega)]; exact hl), scrS_app j (by omega)]
theorem scrO_app {ls ms : List (List UInt8)} {j : Nat} (h : j < ls.length) : scrO (ls ++ ms) j = scrO ls j := by
  obtain ⟨l, hl⟩ : ∃ l, ls[j]? = some l := ⟨_, List.getElem?_eq_getElem h⟩
  rw [scrO_at hl, scrO_at (ls := ls ++ ms) (by rw [List.getElem?_append_left h]; exact hl), scrS_app j (by omega)]
theorem scrT_app {ls ms : List (List UInt8)} : ∀ j, j ≤ ls.length → scrT (ls ++ ms) j = scrT ls j
  | 0, _ => rfl
  | j + 1, h => by rw [scrT, scrT, scrT_app j (by omega), scrO_app (by omega)]
/-- Lines that leave the state as it is. -/
theorem scr_still {ls ms : List (List UInt8)} {f : List UInt8 → List (List UInt8)} (h : ∀ m ∈ ms, stepS (scrS ls ls.length) m = scrS ls ls.length ∧ stepO (scrS ls ls.length) m = f m) :
    ∀ k, k ≤ ms.length → scrS (ls ++ ms) (ls.length + k) = scrS ls ls.length ∧ scrT (ls ++ ms) (ls.length + k) = scrT ls ls.length ++ (ms.take k).flatMap f
  | 0, _ => ⟨scrS_app _ (Nat.le_refl _), by rw [Nat.add_zero, scrT_app _ (Nat.le_refl _)]; simp⟩
  | k + 1, hk => by
    obtain ⟨h1, h2⟩ := scr_still h k (by omega)
    obtain ⟨m, hm⟩ : ∃ m, ms[k]? = some m := ⟨_, List.getElem?_eq_getElem (by omega)⟩
    have hm2 : (ls ++ ms)[ls.length + k]? = some m := by
      rw [List.getElem?_append_right (by omega), show ls.length + k - ls.length = k by omega]
      exact hm
    obtain ⟨h3, h4⟩ := h m (List.mem_of_getElem? hm)
    refine ⟨by rw [← Nat.add_assoc, scrS_next hm2, h1, h3], ?_⟩
    rw [← Nat.add_assoc, scrT, h2, scrO_at hm2, h1, h4, take_next hm, List.flatMap_append, List.append_assoc]
    simp
theorem script_still {ls ms : List (List UInt8)} {f : List UInt8 → List (List UInt8)} (h : ∀ m ∈ ms, stepS (scrS ls ls.length) m = scrS ls ls.length ∧ stepO (scrS ls ls.length) m = f m) :
    scriptOut (ls ++ ms) = textOf (scrT ls ls.length ++ ms.flatMap f) ++ (endL (scrS ls ls.length).roads.length (scrS ls ls.length).net.length (scrS ls ls.length).list.length ++ [10]) := by
  obtain ⟨h1, h2⟩ := scr_still h ms.length (Nat.le_refl _)
  unfold scriptOut
  rw [List.length_append, h1, h2, List.take_length, textOf_snoc]
theorem script_form (ls : List (List UInt8)) : scriptOut ls = textOf (scrT ls ls.length) ++ (endL (scrS ls ls.length).roads.length (scrS ls ls.length).net.length (scrS ls ls.length).list.length ++ [10]) := by
  unfold scriptOut
  rw [textOf_snoc]
def zzzL : List UInt8 := [122, 122, 122]
def wrongL : List UInt8 := [114, 111, 97, 100, 32, 49, 32, 49, 32, 53]
theorem step_zzz (s : LSt) : stepS s zzzL = s ∧ stepO s zzzL = [whatL] := by
  have hc : cutL 32 zzzL = [zzzL] := by decide
  have h : ansL s zzzL = none := by
    unfold ansL
    rw [hc]
    dsimp only
    unfold cmdC
    rw [if_neg (by decide), if_neg (by decide), if_neg (by decide), if_neg (by decide), if_neg (by decide), if_neg (by decide), if_neg (by decide), if_neg (by decide), if_neg (by decide), if_neg (by decide), if_neg (by decide)]
  unfold stepS stepO
  rw [h]
  exact ⟨rfl, rfl⟩
theorem step_wrong (s : LSt) : stepS s wrongL = s ∧ stepO s wrongL = [noL] := by
  have hc : cutL 32 wrongL = [roadW, [49], [49], [53]] := by decide
  have hr : ¬ RoadOk 6 (s.roads ++ [⟨1, 1, 5⟩]) := fun h => by
    have h1 := h.2.2.2.1 ⟨1, 1, 5⟩ (by simp)
    dsimp only at h1
    omega
  have h : ansL s wrongL = some (s, none) := by
    unfold ansL
    rw [hc]
    dsimp only
    unfold cmdC
    rw [if_pos rfl]
    show roadC s [1, 1, 5] = _
    unfold roadC
    dsimp only
    rw [if_neg hr]
  unfold stepS stepO
  rw [h]
  exact ⟨rfl, rfl⟩
theorem step_seats {s : LSt} (hs : StOk s) : stepS s seatsL = s ∧ stepO s seatsL = [spacedL (plan s.list 5)] := by
  have hc : cutL 32 seatsL = [seatsL] := by decide
  have h : ansL s seatsL = some (s, some [spacedL (plan s.list 5)]) := by
    unfold ansL
    rw [hc]
    dsimp only
    unfold cmdC
    rw [if_neg (by decide), if_neg (by decide), if_neg (by decide), if_neg (by decide), if_neg (by decide), if_neg (by decide), if_neg (by decide), if_neg (by decide), if_neg (by decide), if_neg (by decide), if_pos rfl]
    show seatsC s [] = _
    unfold seatsC
    dsimp only
    rw [if_pos hs.2.2]
  unfold stepS stepO
  rw [h]
  exact ⟨rfl, rfl⟩
/-- What is cut out of a text with more lines. -/
theorem cutL_more {ls ms : List (List UInt8)} (h : ∀ l ∈ ls, (10 : UInt8) ∉ l) (hm : ∀ l ∈ ms, (10 : UInt8) ∉ l) : cutL 10 (textOf ls ++ textOf ms) = (ls ++ ms) ++ [[]] := by
  rw [← textOf_append]
  refine cutL_text _ fun l hl => ?_
  rcases List.mem_append.1 hl with hl | hl
  · exact h l hl
  · exact hm l hl
theorem script_len {ls : List (List UInt8)} (hl : ls.length ≤ 501) : (scriptOut ls).length ≤ 1000000 := by
  have hT := scrT_bd ls ls.length
  have hok := scr_ok ls ls.length
  have h16 := hok.1.2.2.1
  have h6 := hok.2.1.2.2.1
  have hb16 := hok.2.2.2.2.1
  have h1 := textOf_len 200 (scrT ls ls.length) hT.2
  have h2 := endL_len (scrS ls ls.length).roads.length (scrS ls ls.length).net.length (scrS ls ls.length).list.length (by omega) (by omega) (by omega)
  rw [script_form, List.length_append, List.length_append, List.length_singleton]
  have h3 : (scrT ls ls.length).length * (200 + 1) ≤ 3006 * (200 + 1) := Nat.mul_le_mul_right _ (by omega)
  omega
end Go.Proofs.YtgjllminidlolaaGreatDoor
