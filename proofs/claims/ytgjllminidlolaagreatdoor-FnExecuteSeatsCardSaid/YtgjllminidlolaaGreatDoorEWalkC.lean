/- Contracts: strings.Join over a slice that a call made; numbersText; done. -/
import Derived.Test.YtgjllminidlolaaGreatDoorEBase
import Derived.Test.YtgjllminidlolaaGreatDoorIntN
set_option linter.unusedVariables false
namespace Go.Proofs.YtgjllminidlolaaGreatDoor
open Go.RowKit

/-- strings.Join of an owned slice. -/
theorem join_any {base : Nat} {W : World} {v : Value} {xs : List ByteArray} (h : OwnE 1 encS 9 base W v xs) (sep : List UInt8) (hn : xs.length ≤ 1000000) (hl : (Lib.join (xs.map (·.data.toList)) sep).length ≤ 1000000000) :
    Calls Tryz.prog 38 #[v, .string (bs sep)] W (Only (.string (bs (Lib.join (xs.map (·.data.toList)) sep))) W) := by
  obtain ⟨A, c, rfl, hs, hc⟩ := h.slc encS_len rfl
  cases xs with
  | nil =>
    refine (Tryz.strings_Join_none A c (bs sep) W).mono ?_
    rintro e w' ⟨rfl, rfl⟩
    exact ⟨rfl, Below.refl _ _⟩
  | cons x ys =>
    obtain ⟨g, rfl, -, -, hg, -⟩ := h.form (by simp)
    have hj := Tryz.strings_Join g 0 c (x :: ys) (bs sep) W (fun j y hy => by
      have := h.cell encS_len hy (i := 0) (u := .string y) rfl
      rw [Nat.mul_one, Nat.add_zero] at this
      rw [Nat.zero_add]
      exact this) hg (by omega) hc (by rw [bs_data]; omega)
    refine hj.mono ?_
    rintro e w' ⟨rfl, hb⟩
    exact ⟨rfl, hb⟩

/-- A number's text. -/
def ItoaOk (w : World) (x : Int) : Prop := ∀ W, Below w.heap.size w W → Calls Tryz.prog 68 #[.int .i64 x] W (Only (.string (bs (Lib.decDigits x.toNat))) W)
theorem itoa_small {x : Int} (h0 : 0 ≤ x) (h1 : x < 100) (w : World) : ItoaOk w x := fun W _ => by
  obtain ⟨n, rfl⟩ : ∃ n : Nat, x = n := ⟨x.toNat, by omega⟩
  refine (Tryz.strconv_Itoa_small n (by omega) W).mono ?_
  rintro e w' ⟨rfl, rfl⟩
  exact ⟨rfl, Below.refl _ _⟩
def decs (xs : List Int) : List ByteArray := xs.map fun x => bs (Lib.decDigits x.toNat)
theorem decs_data (xs : List Int) : (decs xs).map (·.data.toList) = xs.map fun n => Lib.decDigits n.toNat := by
  rw [decs, List.map_map]
  rfl
theorem decs_take {xs : List Int} {j : Nat} {x : Int} (h : xs[j]? = some x) : decs (xs.take (j + 1)) = decs (xs.take j) ++ [bs (Lib.decDigits x.toNat)] := by
  rw [take_next h, decs, List.map_append]
  rfl

set_option maxRecDepth 20000 in
set_option maxHeartbeats 1600000 in
theorem numbersText_any (A : Option Addr) (len c : Nat) (xs : List Int) (w : World) (h : SlE 1 encI w A len xs) (hn : len ≤ 1000) (hI : ∀ x ∈ xs, ItoaOk w x) (hl : (spacedL xs).length ≤ 1000000000) :
    Calls Tryz.prog 180 #[.slice A len c] w (Only (.string (bs (spacedL xs))) w) := by
  have H := Lib.hid h
  have HL := Lib.hid h.len
  have HI := Lib.hid hI
  have HLL := Lib.hid hl
  clear h hI hl
  go_enter Tryz.func180, Tryz.ntmps180
  go_wp2_with fail
  go_loopw [3, 9, 5] (fun s i _ wr => ∃ k : Nat, k ≤ len ∧ i = .int .i64 k ∧ OwnE 1 encS 9 w.heap.size wr s (decs (xs.take k)) ∧ Below w.heap.size w wr) (fun _ i _ _ => len - (intOf i).toNat)
  case atStart => exact ⟨0, by omega, rfl, own_new w _ _ (Nat.le_refl _) encS_len [] #[] rfl (by simp) rfl, below_alloc (Below.refl _ _) _⟩
  case round =>
    obtain ⟨k, hk, rfl, hown, hbr⟩ := hrel
    have HO := Lib.hid hown
    have HR := Lib.hid hbr
    clear hown hbr
    have hsz := HR.out.size
    by_cases hkl : k < len
    rotate_left
    · obtain rfl : k = len := by omega
      have e : xs.take k = xs := List.take_of_length_le (by rw [HL.out]; omega)
      rw [e] at HO
      have HJ := Lib.hid (join_any HO.out [32] (by simp [decs]; rw [HL.out]; omega) (by rw [decs_data]; exact HLL.out))
      go_wp2_with fail
      refine HJ.out.mono ?_
      rintro e w2 ⟨rfl, hb⟩
      have HB := Lib.hid (HR.out.trans (hb.mono hsz))
      clear hb
      go_wp2_with fail
      go_ret
      exact ⟨by rw [decs_data]; rfl, HB.out⟩
    · obtain ⟨b, off, x, rfl, hbl, hx, hd, g0⟩ := at1 H.out HR.out hkl
      have HX := Lib.hid hx
      have HIX := Lib.hid (HI.out x (List.mem_of_getElem? hx) wr HR.out)
      have HK := Lib.hid hk
      have HDL := Lib.hid (show (decs (xs.take k)).length = k by rw [decs, List.length_map, List.length_take, HL.out]; omega)
      have HN := Lib.hid (decs_take hx)
      clear hx hd
      generalize decs (xs.take k) = rs at *
      generalize bs (Lib.decDigits x.toNat) = tx at *
      go_wp2_with fail
      refine HIX.out.mono ?_
      rintro e w2 ⟨rfl, hb⟩
      have HO2 := Lib.hid (HO.out.below hb (Nat.le_refl _))
      have HB2 := Lib.hid (HR.out.trans (hb.mono hsz))
      have hsz2 := HB2.out.size
      clear hb HO HIX
      go_wp2_with (at_builtin; refine wpList_push 1 16 9 encS encS_len encS_one (by omega) tx _ _ rfl rfl _ _ _ rfl Tryz.underlying60 info_str rfl w.heap.size _ _ rfl rfl rfl HO2.out (by rw [HDL.out]; omega) (by rw [HDL.out]; unfold maxLen; omega) hsz2 ?_; intro v' w' hown' hg'; have HO' := Lib.hid hown'; have HB' := Lib.hid (below_grown HB2.out hg' HO2.out (Nat.le_refl _)); clear hown' hg')
      go_roundw
      case rel => exact ⟨k + 1, by omega, by go_num, by rw [HN.out]; exact HO'.out, HB'.out⟩
      case measure => simp [intOf]; omega

/-- A result of lines and whether it went. -/
def RetL (out : List ByteArray) (ok : Bool) (w : World) (e : Ending) (w' : World) : Prop :=
  ∃ v, e = .returned (.tuple #[v, .bool ok]) ∧ OwnE 1 encS 9 w.heap.size w' v out ∧ Below w.heap.size w w'
set_option maxRecDepth 20000 in
theorem done_any (ok : Bool) (w : World) :
    Calls Tryz.prog 177 #[.bool ok] w (RetL [bs okL] ok w) := by
  go_enter Tryz.func177, Tryz.ntmps177
  go_wp2_with fail
  go_ret2
  exact ⟨_, rfl, own_new w _ _ (Nat.le_refl _) encS_len [bs okL] _ rfl (by unfold maxLen; simp) rfl, below_alloc (Below.refl _ _) _⟩
end Go.Proofs.YtgjllminidlolaaGreatDoor
