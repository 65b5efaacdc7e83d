/- Contracts: summary. -/
import Derived.Test.YtgjllminidlolaaGreatDoorEWalkI
import Derived.BigQuiet
import Derived.Laws.Concat
set_option linter.unusedVariables false
namespace Go.Proofs.YtgjllminidlolaaGreatDoor
open Go.RowKit

/-- What the fields of the office hold. -/
theorem St.fields {w0 W : World} {R : Nat} {s : LSt} {av : Nat → Prop} (h : St w0 R s av W) :
    ∃ A1 c1 A2 c2 A3 c3, W.cell? ⟨R, 0, none⟩ = some (.slice A1 s.roads.length c1) ∧ W.cell? ⟨R, 1, none⟩ = some (.slice A2 s.net.length c2) ∧ W.cell? ⟨R, 2, none⟩ = some (.slice A3 s.list.length c3) ∧ R < W.heap.size := by
  obtain ⟨h1, h2, h3, h4, vr, vc, vb, ⟨o1, o2, o3, o4⟩, ⟨hv, -⟩, ⟨vs, hn, -, hl, -⟩, hb1, -⟩ := h
  obtain ⟨A1, c1, rfl, -, -⟩ := hv.slc enc3_len rfl
  obtain ⟨A2, c2, rfl, -, -⟩ := hn.slc encV_len hl
  obtain ⟨A3, c3, rfl, -, -⟩ := hb1.slc encB_len rfl
  exact ⟨A1, c1, A2, c2, A3, c3, o1, o2, o3, h2⟩
theorem itoa_nat (n : Nat) (h : n < 100) (W : World) : Calls Tryz.prog 68 #[.int .i64 n] W (fun e w' => e = .returned (.string (bs (Lib.decDigits n))) ∧ w' = W) := Tryz.strconv_Itoa_small n h W
theorem add_lists (x y : List UInt8) (hx : x.length ≤ 1000) (hy : y.length ≤ 1000) (W : World) : (Op.stringOp .add (bs x) (bs y)).run Tryz.prog W = .ok (.string (bs (x ++ y))) W := by
  have h := run_string_add_sum (P := Tryz.prog) (w := W) (bs x) (bs y) (by rw [bs_size, bs_size]; omega)
  rw [bs_append] at h
  exact h
set_option maxRecDepth 20000 in
set_option maxHeartbeats 1600000 in
theorem summary_any (w0 : World) (R : Nat) (s : LSt) (av : Nat → Prop) (W : World) (hs : St w0 R s av W) (h1 : s.roads.length < 100) (h2 : s.net.length < 100) (h3 : s.list.length < 100) :
    Calls Tryz.prog 37 #[.pointer (some ⟨R, 0, none⟩)] W (Only (.string (bs (endL s.roads.length s.net.length s.list.length))) W) := by
  obtain ⟨A1, c1, A2, c2, A3, c3, k1, k2, k3, hR⟩ := hs.fields
  generalize s.roads.length = a at *
  generalize s.net.length = b at *
  generalize s.list.length = c at *
  clear hs
  have la := decDigits_len 2 a (by omega) (by omega)
  have lb := decDigits_len 2 b (by omega) (by omega)
  have lc := decDigits_len 2 c (by omega) (by omega)
  have a1 : ∀ W, (Op.stringOp .add ⟨#[114, 111, 97, 100, 115, 32]⟩ (bs (Lib.decDigits a))).run Tryz.prog W = .ok (.string (bs ([114, 111, 97, 100, 115, 32] ++ Lib.decDigits a))) W := add_lists [114, 111, 97, 100, 115, 32] _ (by simp) (by omega)
  have a2 : ∀ W, (Op.stringOp .add (bs ([114, 111, 97, 100, 115, 32] ++ Lib.decDigits a)) ⟨#[32, 99, 111, 97, 99, 104, 101, 115, 32]⟩).run Tryz.prog W = .ok (.string (bs ([114, 111, 97, 100, 115, 32] ++ Lib.decDigits a ++ [32, 99, 111, 97, 99, 104, 101, 115, 32]))) W := add_lists _ [32, 99, 111, 97, 99, 104, 101, 115, 32] (by simp; omega) (by simp)
  have a3 : ∀ W, (Op.stringOp .add (bs ([114, 111, 97, 100, 115, 32] ++ Lib.decDigits a ++ [32, 99, 111, 97, 99, 104, 101, 115, 32])) (bs (Lib.decDigits b))).run Tryz.prog W = .ok (.string (bs ([114, 111, 97, 100, 115, 32] ++ Lib.decDigits a ++ [32, 99, 111, 97, 99, 104, 101, 115, 32] ++ Lib.decDigits b))) W := add_lists _ _ (by simp; omega) (by omega)
  have a4 : ∀ W, (Op.stringOp .add (bs ([114, 111, 97, 100, 115, 32] ++ Lib.decDigits a ++ [32, 99, 111, 97, 99, 104, 101, 115, 32] ++ Lib.decDigits b)) ⟨#[32, 98, 111, 111, 107, 105, 110, 103, 115, 32]⟩).run Tryz.prog W = .ok (.string (bs ([114, 111, 97, 100, 115, 32] ++ Lib.decDigits a ++ [32, 99, 111, 97, 99, 104, 101, 115, 32] ++ Lib.decDigits b ++ [32, 98, 111, 111, 107, 105, 110, 103, 115, 32]))) W := add_lists _ [32, 98, 111, 111, 107, 105, 110, 103, 115, 32] (by simp; omega) (by simp)
  have a5 : ∀ W, (Op.stringOp .add (bs ([114, 111, 97, 100, 115, 32] ++ Lib.decDigits a ++ [32, 99, 111, 97, 99, 104, 101, 115, 32] ++ Lib.decDigits b ++ [32, 98, 111, 111, 107, 105, 110, 103, 115, 32])) (bs (Lib.decDigits c))).run Tryz.prog W = .ok (.string (bs (endL a b c))) W := add_lists _ _ (by simp; omega) (by omega)
  have J1 := fun W => itoa_nat a h1 W
  have J2 := fun W => itoa_nat b h2 W
  have J3 := fun W => itoa_nat c h3 W
  clear la lb lc
  generalize bs (endL a b c) = T5 at *
  generalize bs ([114, 111, 97, 100, 115, 32] ++ Lib.decDigits a ++ [32, 99, 111, 97, 99, 104, 101, 115, 32] ++ Lib.decDigits b ++ [32, 98, 111, 111, 107, 105, 110, 103, 115, 32]) = T4 at *
  generalize bs ([114, 111, 97, 100, 115, 32] ++ Lib.decDigits a ++ [32, 99, 111, 97, 99, 104, 101, 115, 32] ++ Lib.decDigits b) = T3 at *
  generalize bs ([114, 111, 97, 100, 115, 32] ++ Lib.decDigits a ++ [32, 99, 111, 97, 99, 104, 101, 115, 32]) = T2 at *
  generalize bs ([114, 111, 97, 100, 115, 32] ++ Lib.decDigits a) = T1 at *
  generalize bs (Lib.decDigits a) = D1 at *
  generalize bs (Lib.decDigits b) = D2 at *
  generalize bs (Lib.decDigits c) = D3 at *
  have K1 := Lib.hid J1
  have K2 := Lib.hid J2
  have K3 := Lib.hid J3
  clear J1 J2 J3
  go_enter Tryz.func37, Tryz.ntmps37
  go_wp2_with fail
  go_quiet ((go_at_call 68; first | (with_reducible_and_instances exact Calls.quiet_of_same (K1.out _)) | (with_reducible_and_instances exact Calls.quiet_of_same (K2.out _)) | (with_reducible_and_instances exact Calls.quiet_of_same (K3.out _)) | fail))
  go_wp2_with fail
  go_ret
  exact ⟨rfl, bl_drewN (Below.refl _ _) _⟩
end Go.Proofs.YtgjllminidlolaaGreatDoor
