/- Contracts: digits of the laws. -/
import Derived.Test.YtgjllminidlolaaGreatDoorEWalkJ
import Derived.Test.YtgjllminidlolaaGreatDoorPlains
import Derived.Laws.BytesArg
import Derived.Deep.RegionWith
set_option linter.unusedVariables false
namespace Go.Proofs.YtgjllminidlolaaGreatDoor
open Go.RowKit

theorem conv_byte {W : World} {b : Nat} {x : Int} (h : W.cell? ⟨b, 0, none⟩ = some (.int .u8 x)) : (convert 22 9 (.slice (some ⟨b, 0, none⟩) 1 1)).run Tryz.prog W = .ok (.string (bs [UInt8.ofNat x.toNat])) W := by
  have h1 := run_convert_bytes_arg (P := Tryz.prog) W 22 5 Tryz.underlying22 Tryz.underlying5 b 0 1 1 [x] rfl (fun i hi => by
    obtain rfl : i = 0 := by omega
    exact h) 9 Tryz.underlying9
  exact h1
theorem digit_byte (n : Nat) (h : n < 10) : UInt8.ofNat (48 + (n : Int)).toNat = UInt8.ofNat (48 + n) := by
  congr 1
theorem dec_small {n : Nat} (h : n < 10) : Lib.decDigits n = [UInt8.ofNat (48 + n)] := by
  rw [Lib.decDigits, dif_pos h]
theorem dec_large {n : Nat} (h : ¬ n < 10) : Lib.decDigits n = Lib.decDigits (n / 10) ++ [UInt8.ofNat (48 + n % 10)] := by
  rw [Lib.decDigits, dif_neg h]
set_option maxRecDepth 20000 in
set_option maxHeartbeats 1600000 in
theorem digits_any : ∀ (n : Nat) (w : World), n < 1000000000000 →
    Calls Tryz.prog 19 #[.int .i64 n] w (Only (.string (bs (Lib.decDigits n))) w) := by
  intro n
  induction n using Nat.strongRecOn with
  | _ n ih =>
    intro w hn
    by_cases h : n < 10
    · have hconv : (convert 22 9 (.slice (some ⟨w.heap.size, 0, none⟩) 1 1)).run Tryz.prog (w.alloc (.cells #[.int .u8 (48 + (n : Int))] 5)) = .ok (.string (bs (Lib.decDigits n))) (w.alloc (.cells #[.int .u8 (48 + (n : Int))] 5)) := by
        rw [dec_small h, ← digit_byte n h]
        exact conv_byte (by simp)
      have i0 : (n : Int) < 10 := by omega
      have HB := Lib.hid (below_alloc (Below.refl w.heap.size w) (.cells #[.int .u8 (48 + (n : Int))] 5))
      clear ih
      generalize bs (Lib.decDigits n) = T at *
      go_enter Tryz.func19, Tryz.ntmps19
      go_wp2_with fail
      go_ret
      exact ⟨rfl, HB.out⟩
    · have i0 : ¬ (n : Int) < 10 := by omega
      obtain ⟨q, hq⟩ : ∃ q, n / 10 = q := ⟨_, rfl⟩
      obtain ⟨r, hr⟩ : ∃ r, n % 10 = r := ⟨_, rfl⟩
      have hr10 : r < 10 := by omega
      have q1 : (n : Int) / 10 = (q : Int) := by omega
      have r1 : (n : Int) % 10 = (r : Int) := by omega
      have q2 : Int.tdiv (n : Int) 10 = (q : Int) := by rw [Int.tdiv_eq_ediv_of_nonneg (by omega)]; exact q1
      have r2 : Int.tmod (n : Int) 10 = (r : Int) := by rw [Int.tmod_eq_emod_of_nonneg (by omega)]; exact r1
      have wr1 : IntKind.i64.wrap (q : Int) = (q : Int) := IntWalk.i64_in _ (by omega)
      have wr2 : IntKind.i64.wrap (48 + (r : Int)) = 48 + (r : Int) := IntWalk.i64_in _ (by omega)
      have wr3 : IntKind.u8.wrap (48 + (r : Int)) = 48 + (r : Int) := IntWalk.u8_in _ (by omega)
      have IH := Lib.hid (fun W => ih q (by omega) W (by omega))
      have hl := decDigits_len 12 q (by omega) (by omega)
      have hconv : ∀ (W : World) (b : Nat), W.cell? ⟨b, 0, none⟩ = some (.int .u8 (48 + (r : Int))) → (convert 22 9 (.slice (some ⟨b, 0, none⟩) 1 1)).run Tryz.prog W = .ok (.string (bs [UInt8.ofNat (48 + r)])) W := fun W b hc => by
        rw [← digit_byte r hr10]
        exact conv_byte hc
      have hadd : ∀ W, (Op.stringOp .add (bs (Lib.decDigits q)) (bs [UInt8.ofNat (48 + r)])).run Tryz.prog W = .ok (.string (bs (Lib.decDigits n))) W := fun W => by
        rw [dec_large h, hq, hr]
        exact add_lists _ _ (by omega) (by simp) W
      clear ih hq hr
      generalize bs (Lib.decDigits n) = T at *
      generalize bs (Lib.decDigits q) = TQ at *
      generalize bs [UInt8.ofNat (48 + r)] = TR at *
      go_enter Tryz.func19, Tryz.ntmps19
      go_wp2_with fail
      have HCW := Lib.hid (show (w.alloc (.cells #[.int .u8 (48 + (r : Int))] 5)).drew.cell? ⟨w.heap.size, 0, none⟩ = some (.int .u8 (48 + (r : Int))) by simp)
      have HB0 := Lib.hid (below_drew (below_alloc (Below.refl w.heap.size w) (.cells #[.int .u8 (48 + (r : Int))] 5)))
      have HB1 := Lib.hid (below_drew (Below.refl w.heap.size w))
      go_region_with (first
        | (go_at_call 19; (with_reducible_and_instances refine (IH.out (w.alloc (.cells #[.int .u8 (48 + (r : Int))] 5)).drew).mono ?_); rintro e w2 ⟨rfl, hb2⟩; have HB2 := Lib.hid (below_trans HB0.out hb2); have hc2 := cell_below hb2 HCW.out; clear hb2)
        | (go_at_call 19; (with_reducible_and_instances refine (IH.out w.drew).mono ?_); rintro e w2 ⟨rfl, hb2⟩; have HB2 := Lib.hid (below_alloc (below_trans HB1.out hb2) (.cells #[.int .u8 (48 + (r : Int))] 5)); clear hb2))
      all_goals (go_wp2_with fail; go_ret; exact ⟨rfl, HB2.out⟩)
end Go.Proofs.YtgjllminidlolaaGreatDoor
