/- Contracts: backOf. -/
import Derived.Test.YtdfgogcefnamcaaWalkF
set_option linter.unusedVariables false
namespace Go.Proofs.Ytdfgogcefnamcaa
open Go.RowKit

theorem back_next {xs : List Int} {k : Nat} {x : Int} (h : xs[k]? = some x) : (xs.drop k).reverse = (xs.drop (k + 1)).reverse ++ [x] := by
  obtain ⟨h1, h2⟩ := List.getElem?_eq_some_iff.1 h
  rw [List.drop_eq_getElem_cons h1, List.reverse_cons, h2]
set_option maxRecDepth 20000 in
set_option maxHeartbeats 1600000 in
theorem backOf_any (A : Option Addr) (len c : Nat) (xs : List Int) (w : World) (h : SlE 1 encI w A len xs) (hn : len ≤ 1000) :
    Calls Try.prog 31 #[.slice A len c] w (RetOwn 1 encI 3 xs.reverse w) := by
  have H := Lib.hid h
  have HL := Lib.hid h.len
  clear h
  go_enter Try.func31, Try.ntmps31
  go_wp2_with fail
  go_loopw [4, 3] (fun i s wr => ∃ k : Nat, k ≤ len ∧ i = .int .i64 ((k : Int) - 1) ∧ OwnE 1 encI 3 w.heap.size wr s (xs.drop k).reverse ∧ Below w.heap.size w wr) (fun i _ _ => (intOf i + 1).toNat)
  case atStart => exact ⟨len, by omega, rfl, by rw [List.drop_of_length_le (by rw [HL.out]; omega)]; exact own_new w _ _ (Nat.le_refl _) encI_len [] #[] rfl (by simp) rfl, below_alloc (Below.refl _ _) _⟩
  case round =>
    obtain ⟨k, hk, rfl, hown, hbr⟩ := hrel
    have HO := Lib.hid hown
    have HR := Lib.hid hbr
    clear hown hbr
    by_cases hk0 : k = 0
    · subst hk0
      have HD := Lib.hid (show xs.drop 0 = xs from rfl)
      rw [HD.out] at HO
      go_wp2_with fail
      go_ret
      exact ⟨_, rfl, HO.out, HR.out⟩
    · obtain ⟨k, rfl⟩ : ∃ j, k = j + 1 := ⟨k - 1, by omega⟩
      have hkl : k < len := by omega
      obtain ⟨b, off, x, rfl, hbl, hx, hd, g0⟩ := at1 H.out HR.out hkl
      have HN := Lib.hid (back_next hx)
      have hl : (xs.drop (k + 1)).reverse.length ≤ len := by rw [List.length_reverse, List.length_drop, HL.out]; omega
      have HLN := Lib.hid hl
      have hsz := HR.out.size
      have e0 : ((k + 1 : Nat) : Int) - 1 = (k : Int) := by omega
      rw [e0]
      clear hx hd hl e0 hk0
      generalize (xs.drop (k + 1)).reverse = rs at *
      go_wp2_with (at_builtin; refine wpList_push 1 8 3 encI encI_len encI_one (by omega) x _ _ rfl rfl _ _ _ rfl Try.underlying29 info_int rfl w.heap.size _ _ rfl rfl rfl HO.out (by have := HLN.out; omega) (by have := HLN.out; unfold maxLen; omega) hsz ?_; intro v' w' hown' hg'; have HO' := Lib.hid hown'; have HB' := Lib.hid (below_grown HR.out hg' HO.out (Nat.le_refl _)); clear hown' hg')
      go_roundw
      case rel => exact ⟨k, by omega, by go_num, by rw [HN.out]; exact HO'.out, HB'.out⟩
      case measure => simp [intOf]
end Go.Proofs.Ytdfgogcefnamcaa
