/- Contracts: SeatsTaken and SeatsFree of the program, at bookings. -/
import Derived.Test.YtkknfhabfmpogaaSWalkF
import Derived.Test.YtkknfhabfmpogaaExB
set_option linter.unusedVariables false
namespace Go.Proofs.Ytkknfhabfmpogaa
open Go.RowKit

def takens (xs : List B3) (k : Bool) (j : Nat) : List Int := (List.range j).map fun (i : Nat) => taken xs i k
theorem takens_next (xs : List B3) (k : Bool) (j : Nat) : takens xs k (j + 1) = takens xs k j ++ [taken xs j k] := by simp [takens, List.range_succ]
theorem takens_len (xs : List B3) (k : Bool) (j : Nat) : (takens xs k j).length = j := by simp [takens]
theorem takens_at {xs : List B3} {k : Bool} {j i : Nat} (h : i < j) : (takens xs k j)[i]? = some (taken xs i k) := by simp [takens, h]
def freeTo (xs : List B3) (k : Bool) (f : Nat) : Nat → Int
  | 0 => capOf k
  | j + 1 => min (freeTo xs k f j) ((capOf k : Int) - taken xs ((f + j : Nat) : Int) k)
theorem freeTo_bd (xs : List B3) (k : Bool) (f : Nat) (hl : xs.length ≤ 16) : ∀ j, -20 ≤ freeTo xs k f j ∧ freeTo xs k f j ≤ 6
  | 0 => by have := capOf_bd k; unfold freeTo; omega
  | j + 1 => by
    have h1 := freeTo_bd xs k f hl j
    have h2 := taken_bd xs ((f + j : Nat) : Int) k
    have h3 := capOf_bd k
    unfold freeTo
    omega
theorem freeTo_ge (xs : List B3) (k : Bool) (f : Nat) (m : Int) (hm : m ≤ capOf k) : ∀ j : Nat, (∀ i : Nat, f ≤ i → i < f + j → taken xs i k + m ≤ capOf k) → m ≤ freeTo xs k f j
  | 0, _ => hm
  | j + 1, h => by
    have h1 := freeTo_ge xs k f m hm j (fun i h1 h2 => h i h1 (by omega))
    have h2 := h (f + j) (by omega) (by omega)
    unfold freeTo
    omega
/-- A booking left out leaves a seat on its legs. -/
theorem taken_erase : ∀ (xs : List B3) (i : Nat) (p : B3) (leg : Int) (k : Bool), xs[i]? = some p → taken (xs.eraseIdx i) leg k + (if p.c = k ∧ p.a ≤ leg ∧ leg < p.b then 1 else 0) = taken xs leg k
  | [], i, p, leg, k, h => by simp at h
  | q :: xs, 0, p, leg, k, h => by
    simp only [List.getElem?_cons_zero, Option.some.injEq] at h
    subst h
    simp only [List.eraseIdx_cons_zero, taken]
    omega
  | q :: xs, i + 1, p, leg, k, h => by
    have := taken_erase xs i p leg k h
    simp only [List.eraseIdx_cons_succ, taken]
    omega

set_option maxRecDepth 20000 in
set_option maxHeartbeats 1600000 in
theorem implSeatsTaken_yes (A : Option Addr) (n : Nat) (len cap : Nat) (xs : List B3) (kd : Bool) (w : World) (h : SlE 3 encB w A len xs) (hn : len ≤ 16777216) (hB : BookOk n xs) :
    Calls Try.prog 28 #[.int .i64 n, .slice A len cap, .bool kd] w (RetOwnB 1 encI 3 (takens xs kd n) true w) := by
  have H := Lib.hid h
  clear h
  have hr1 := hB.1
  have hr2 := hB.2.1
  have HB := Lib.hid hB
  have HW := Lib.hid (okB_w hr2 hB.2.2.2.1)
  clear hB
  go_enter Try.func28, Try.ntmps28
  go_wp2_with fail
  refine (implBookingsValid_any A n len cap xs _ (H.out.alloc _) hn).mono ?_
  intro e w1 hp
  obtain ⟨rfl, hb1⟩ := hp.yes HB.out
  have HB1 := Lib.hid (below_trans (below_alloc (Below.refl _ w) _) hb1)
  have HO1 := Lib.hid ((own_new w 3 _ (Nat.le_refl _) encI_len [] #[] rfl (by simp) rfl).below hb1 (Nat.le_refl _))
  clear hb1 hp
  go_wp2_with fail
  go_loopw [8, 17, 9] (fun s i _ wr => ∃ k : Nat, k ≤ n ∧ i = .int .i64 k ∧ OwnE 1 encI 3 w.heap.size wr s (takens xs kd k) ∧ Below w.heap.size w wr) (fun _ i _ _ => n - (intOf i).toNat)
  case atStart => exact ⟨0, by omega, rfl, HO1.out, HB1.out⟩
  case round =>
    obtain ⟨k, hk, rfl, hown, hbr⟩ := hrel
    have HO := Lib.hid hown
    have HR := Lib.hid hbr
    clear hown hbr
    by_cases hlt : k < n
    · have hlt' : (k : Int) < (n : Int) := by omega
      have HX := Lib.hid (takens_next xs kd k)
      have HL := Lib.hid (takens_len xs kd k)
      have HC := Lib.hid (fun (W : World) (hW : SlE 3 encB W A len xs) => takenOn_any A len cap k kd xs W hW hn HW.out (by omega))
      generalize taken xs k kd = r at *
      go_wp2_with fail
      refine (HC.out _ (H.out.below HR.out)).mono ?_
      rintro e w2 ⟨rfl, hb2⟩
      have HB2 := Lib.hid (below_trans HR.out hb2)
      have HO2 := Lib.hid (HO.out.below hb2 (Nat.le_refl _))
      have hsz2 := HB2.out.size
      clear hb2
      go_wp2_with (at_builtin; refine wpList_push 1 8 3 encI encI_len encI_one (by omega) r _ _ rfl rfl _ _ _ rfl Try.underlying29 info_intN rfl w.heap.size _ (takens xs kd k) rfl rfl (by simp) HO2.out (by rw [HL.out]; omega) (by rw [HL.out]; unfold maxLen; omega) hsz2 ?_; intro v' w' hown' hg'; have HO' := Lib.hid hown'; have HB' := Lib.hid (below_grown HB2.out hg' HO2.out (Nat.le_refl _)); clear hown' hg')
      go_roundw
      case rel => exact ⟨k + 1, by omega, by go_num, by rw [HX.out]; exact HO'.out, HB'.out⟩
      case measure => simp [intOf]; omega
    · have e : k = n := by omega
      subst e
      go_wp2_with fail
      go_ret2
      exact ⟨_, rfl, HO.out, HR.out⟩

set_option maxRecDepth 20000 in
set_option maxHeartbeats 1600000 in
theorem implSeatsFree_yes (A : Option Addr) (n f t len cap : Nat) (kd : Bool) (xs : List B3) (w : World) (h : SlE 3 encB w A len xs) (hn : len ≤ 16777216) (hB : BookOk n xs) (hft : f < t) (htn : t ≤ n) :
    Calls Try.prog 34 #[.int .i64 n, .slice A len cap, .int .i64 f, .int .i64 t, .bool kd] w (Only (.int .i64 (freeTo xs kd f (t - f))) w) := by
  have H := Lib.hid h
  have hr1 := hB.1
  have hr2 := hB.2.1
  have HM := Lib.hid hB.2.2.1
  have HB := Lib.hid hB
  have HW := Lib.hid (okB_w hr2 hB.2.2.2.1)
  have hcb := capOf_bd kd
  have HC4 := Lib.hid (fun W => seatsOf_any f t kd W)
  have HF0 := Lib.hid (show freeTo xs kd f 0 = capOf kd from rfl)
  have HFX := Lib.hid (fun (q : Nat) (hq : f ≤ q) => show freeTo xs kd f (q + 1 - f) = min (freeTo xs kd f (q - f)) ((capOf kd : Int) - taken xs q kd) by
    have e : q + 1 - f = (q - f) + 1 := by omega
    have e2 : f + (q - f) = q := by omega
    rw [e, freeTo, e2])
  obtain ⟨c4, c6⟩ := hcb
  clear hB h
  generalize capOf kd = cp at *
  go_enter Try.func34, Try.ntmps34
  go_wp2_with fail
  refine (implBookingsValid_any A n len cap xs w H.out hn).mono ?_
  intro e w1 hp
  obtain ⟨rfl, hb1⟩ := hp.yes HB.out
  have HB1 := Lib.hid hb1
  clear hb1 hp
  go_wp2_with fail
  refine (stopsOrdered_any n f t w1).mono ?_
  intro e w2 hp
  obtain ⟨rfl, rfl⟩ := hp.yes (by omega)
  clear hp
  go_wp2_with fail
  refine (ticketOf_any f t kd w1 (by omega) (by omega)).mono ?_
  rintro e w3 ⟨rfl, hb3⟩
  have HB3 := Lib.hid (below_trans HB1.out hb3)
  clear hb3
  go_wp2_with fail
  refine (HC4.out _).mono ?_
  rintro e w4 ⟨rfl, rfl⟩
  go_wp2_with fail
  go_loopw [12, 13] (fun s l wr => ∃ q : Nat, f ≤ q ∧ q ≤ t ∧ l = .int .i64 q ∧ s = .int .i64 (freeTo xs kd f (q - f)) ∧ Below w.heap.size w wr) (fun _ l _ => (t - intOf l).toNat)
  case atStart => exact ⟨f, by omega, by omega, rfl, by rw [Nat.sub_self, HF0.out], HB3.out⟩
  case round =>
    obtain ⟨q, hq0, hq1, rfl, rfl, hbr⟩ := hrel
    have HR := Lib.hid hbr
    clear hbr
    by_cases hjn : q < t
    · have hs := freeTo_bd xs kd f HM.out (q - f)
      have htb := taken_bd xs q kd
      have hlm := HM.out
      obtain ⟨s0, s1⟩ := hs
      obtain ⟨t0, t1⟩ := htb
      have HX := Lib.hid (HFX.out q hq0)
      have HC := Lib.hid (fun (W : World) (hW : SlE 3 encB W A len xs) => takenOn_any A len cap q kd xs W hW hn HW.out (by omega))
      generalize taken xs q kd = r at *
      generalize freeTo xs kd f (q - f) = s at *
      go_wp2_with fail
      refine (HC.out _ (H.out.below HR.out)).mono ?_
      rintro e w2 ⟨rfl, hb2⟩
      have HN := Lib.hid (below_trans HR.out hb2)
      clear hb2
      go_wp2_with fail
      go_roundw
      case rel => exact ⟨q + 1, by omega, by omega, by go_num, by rw [HX.out, min_ite], HN.out⟩
      case measure => simp [intOf]; omega
    · have E := Lib.hid (show t = q by omega)
      go_wp2_with fail
      go_ret
      exact ⟨ret_int (by rw [E.out]), HR.out⟩
end Go.Proofs.Ytkknfhabfmpogaa
