/- Texts of mine in one: EWalkA EMap EWalkB Shelf EBase ShelfI EWalkC EWalkE. -/
import Derived.Test.YtgjllminidlolaaGreatDoorVAA
import Derived.Test.YtgjllminidlolaaGreatDoorVAB
import Derived.Lib.ConvBytes
import Derived.MapKept
import Derived.Deep.Cut
import Derived.Laws.EntriesVeiled
import Derived.WideLaws
import Derived.Laws.ResultCell
import Derived.Shelf.Strings.OnBuilder
import Derived.Shelf.Strings.Split
import Derived.Shelf.Strconv.Itoa0
import Derived.Shelf.Strconv.Itoa1
import Derived.Shelf.Strconv.Itoa2
import Derived.Shelf.Strconv.Itoa3
import Derived.Shelf.Strings.Builder1
import Derived.Shelf.Strings.Builder2
import Derived.Shelf.LaysM
import Derived.Test.YtgjllminidlolaaGreatDoorProg
import Derived.Test.YtgjllminidlolaaGreatDoorVAD
import Derived.Lib.LaidTab
import Derived.Lib.ItoaMem
import Derived.Lib.SplitLaws
/- Contracts: the number of a word. -/
set_option linter.unusedVariables false
namespace Go.Proofs.YtgjllminidlolaaGreatDoor
open Go.RowKit

theorem numD_bd : ∀ (l : List UInt8) (a : Int), l.all isDig = true → 0 ≤ a → 0 ≤ numD l a ∧ numD l a ≤ (a + 1) * 10 ^ l.length - 1
  | [], a, _, h => by simp [numD]; omega
  | c :: l, a, h, h0 => by
    simp only [List.all_cons, Bool.and_eq_true] at h
    have hc : 48 ≤ c.toNat ∧ c.toNat ≤ 57 := by
      have := h.1
      simp only [isDig, Bool.and_eq_true, decide_eq_true_eq, UInt8.le_iff_toNat_le] at this
      exact this
    have ih := numD_bd l (a * 10 + ((c.toNat : Int) - 48)) h.2 (by omega)
    refine ⟨ih.1, Int.le_trans ih.2 ?_⟩
    rw [List.length_cons, Int.pow_succ]
    have h1 : (a * 10 + ((c.toNat : Int) - 48) + 1) * 10 ^ l.length ≤ (a * 10 + 10) * 10 ^ l.length := Int.mul_le_mul_of_nonneg_right (by omega) (Int.pow_nonneg (by omega))
    have h2 : (a * 10 + 10) * (10 : Int) ^ l.length = (a + 1) * (10 ^ l.length * 10) := by
      rw [show a * 10 + 10 = (a + 1) * 10 by omega, Int.mul_assoc, Int.mul_comm 10]
    omega
theorem below_bytes (w : World) (e : TypeId) (s : ByteArray) : Below w.heap.size w (Lib.bytesWorld w e s) :=
  ⟨rfl, rfl, rfl, by rw [Lib.bytesWorld_size]; omega, fun j hj => Lib.bytesWorld_at_old w e s j hj⟩
theorem take_at_next (l : List UInt8) (j : Nat) (c : UInt8) (h : l[j]? = some c) : l.take (j + 1) = l.take j ++ [c] := take_next h

set_option maxRecDepth 20000 in
set_option maxHeartbeats 1600000 in
theorem numberOf_any (s : ByteArray) (w : World) :
    Calls Tryz.prog 104 #[.string s] w (Only (.int .i64 (numL s.data.toList)) w) := by
  have hsz : s.size = s.data.toList.length := by simp
  by_cases hlen : 1 ≤ s.size ∧ s.size ≤ 5
  rotate_left
  · have HN := Lib.hid (show numL s.data.toList = 99999 by rw [numL, if_neg (fun h => hlen (by rw [hsz]; exact ⟨h.1, h.2.1⟩))])
    by_cases h1 : s.size < 1
    · have i1 : (s.size : Int) < 1 := by omega
      clear hlen hsz
      go_enter Tryz.func104, Tryz.ntmps104
      go_wp2_with fail
      go_ret
      exact ⟨by rw [HN.out]; rfl, Below.refl _ _⟩
    · have i1 : ¬ (s.size : Int) < 1 := by omega
      have i2 : 5 < (s.size : Int) := by omega
      clear hlen hsz h1
      go_enter Tryz.func104, Tryz.ntmps104
      go_wp2_with fail
      go_ret
      exact ⟨by rw [HN.out]; rfl, Below.refl _ _⟩
  obtain ⟨h1, h5⟩ := hlen
  have HSZ := Lib.hid hsz
  have hcv := fun W => Lib.run_convert_string_bytes (P := Tryz.prog) W 9 22 5 s Tryz.underlying9 Tryz.underlying22 Tryz.underlying5
  have HB := Lib.hid (below_bytes w 5 s)
  have HC := Lib.hid (fun j hj => Lib.bytesWorld_cell w 5 s j hj)
  clear hsz
  go_enter Tryz.func104, Tryz.ntmps104
  go_wp2_with fail
  generalize Lib.bytesWorld w 5 s = wb at *
  go_loop [3, 17, 5] (fun v i _ => ∃ j : Nat, j ≤ s.size ∧ i = .int .i64 j ∧ v = .int .i64 (numD (s.data.toList.take j) 0) ∧ (s.data.toList.take j).all isDig = true) (fun _ i _ => s.size - (intOf i).toNat)
  case atStart => exact ⟨0, by omega, rfl, rfl, rfl⟩
  case round =>
    obtain ⟨j, hj, rfl, rfl, hall⟩ := hrel
    have hbd := numD_bd _ 0 hall (by omega)
    have htl : (s.data.toList.take j).length ≤ j := List.length_take_le _ _
    have HA := Lib.hid hall
    clear hall
    by_cases hjs : j < s.size
    rotate_left
    · have e : j = s.size := by omega
      have HT := Lib.hid (show s.data.toList.take j = s.data.toList from List.take_of_length_le (by rw [← HSZ.out]; omega))
      have HV := Lib.hid (show numL s.data.toList = numD (s.data.toList.take j) 0 by
        rw [numL, if_pos ⟨by rw [← HSZ.out]; exact h1, by rw [← HSZ.out]; exact h5, by rw [← HT.out]; exact HA.out⟩, HT.out])
      clear e hbd htl
      generalize numD (s.data.toList.take j) 0 = nv at *
      go_wp2_with fail
      go_ret
      exact ⟨by rw [HV.out]; rfl, HB.out⟩
    have hp5 : (10 : Int) ^ (s.data.toList.take j).length ≤ 10000 := by
      have h : (s.data.toList.take j).length ≤ 4 := by omega
      rcases (by omega : (s.data.toList.take j).length = 0 ∨ (s.data.toList.take j).length = 1 ∨ (s.data.toList.take j).length = 2 ∨ (s.data.toList.take j).length = 3 ∨ (s.data.toList.take j).length = 4) with e | e | e | e | e <;> rw [e] <;> decide
    obtain ⟨n0, n1⟩ := hbd
    obtain ⟨c, hc⟩ : ∃ c, s.data.toList[j]? = some c := ⟨_, List.getElem?_eq_getElem (by rw [← HSZ.out]; exact hjs)⟩
    have hcell := HC.out j hjs
    rw [List.getD_eq_getElem?_getD, hc] at hcell
    simp only [Option.getD_some] at hcell
    have HX := Lib.hid hc
    have hcl := c.toNat_lt
    have n2 : numD (s.data.toList.take j) 0 ≤ 10000 := by omega
    have HN := Lib.hid (show numD (s.data.toList.take (j + 1)) 0 = numD (s.data.toList.take j) 0 * 10 + ((c.toNat : Int) - 48) by rw [take_at_next _ _ _ hc, numD_append]; rfl)
    have HD := Lib.hid (show (s.data.toList.take (j + 1)).all isDig = isDig c by rw [take_at_next _ _ _ hc, List.all_append, HA.out]; simp)
    have HF := Lib.hid (show isDig c = false → numL s.data.toList = 99999 from fun hd => by
      rw [numL, if_neg (fun h => by
        have := List.all_eq_true.1 h.2.2 c (List.mem_of_getElem? hc)
        rw [hd] at this
        cases this)])
    have HDG := Lib.hid (show isDig c = true ↔ 48 ≤ c.toNat ∧ c.toNat ≤ 57 by simp [isDig, UInt8.le_iff_toNat_le])
    clear hc hp5 htl n1
    generalize numD (s.data.toList.take j) 0 = nv at *
    generalize hcn : c.toNat = cn at *
    have i0 : (0 : Int) ≤ (cn : Int) := by omega
    have i1 : (cn : Int) ≤ 255 := by omega
    have i2 : (0 : Int) ≤ (j : Int) := by omega
    clear hcl hcn
    by_cases hd : 48 ≤ cn ∧ cn ≤ 57
    · obtain ⟨d0, d1⟩ := hd
      have d2 : (48 : Int) ≤ (cn : Int) := by omega
      have d3 : (cn : Int) ≤ 57 := by omega
      go_wp2_with fail
      go_round
      case rel => exact ⟨j + 1, by omega, by go_num, by rw [HN.out], by rw [HD.out]; exact HDG.out.2 ⟨d0, d1⟩⟩
      case measure => simp [intOf]; omega
    · have HV := Lib.hid (HF.out (by cases hx : isDig c with | false => rfl | true => exact absurd (HDG.out.1 hx) hd))
      rcases (by omega : cn < 48 ∨ 57 < cn) with e | e
      all_goals
        have e' := e
        clear hd e
        go_wp2_with fail
        go_ret
        exact ⟨by rw [HV.out]; rfl, HB.out⟩
end Go.Proofs.YtgjllminidlolaaGreatDoor
/- A map of strings that a call makes: an entry laid, a look-up. -/
set_option linter.unusedVariables false
namespace Go.Proofs.YtgjllminidlolaaGreatDoor
open Go.MapKept

section
variable {P : Program} {mty kt et : TypeId}
theorem set_alloc (w : World) (o o' : Obj) : ({ (w.alloc o) with heap := (w.alloc o).heap.setIfInBounds w.heap.size o' } : World) = w.alloc o' := by
  have e : (w.alloc o).heap.setIfInBounds w.heap.size o' = (w.alloc o').heap := by
    show (w.heap.push o).setIfInBounds w.heap.size o' = w.heap.push o'
    apply Array.ext_getElem?
    intro i
    rw [Array.getElem?_setIfInBounds]
    by_cases h : w.heap.size = i
    · subst h; simp
    · rw [if_neg h]
      rcases Nat.lt_or_ge i w.heap.size with h1 | h1
      · rw [Array.getElem?_push_lt h1, Array.getElem?_push_lt h1]
      · rw [Array.getElem?_eq_none (by simp; omega), Array.getElem?_eq_none (by simp; omega)]
  rw [e]
  rfl
/-- One entry more. -/
theorem run_update_new (hm : P.underlying mty = some (.map kt et)) (hd : P.underlying kt = some .string) (w : World) (es : Array MapEntry) (clock : Nat) (s : ByteArray) (v : Value)
    (hk : ∀ x ∈ es.toList, IsKey .string x.key) (hn : ∀ x ∈ es.toList, x.key ≠ .string s) :
    (Instr.mapUpdate mty (.map (some w.heap.size)) (.string s) v).run P (w.alloc (.map es clock)) = .ok () (w.alloc (.map (es.push { key := .string s, val := v, born := clock }) (clock + 1))) := by
  have hb : (w.alloc (.map es clock)).heap[w.heap.size]? = some (.map es clock) := (heap_alloc w _).1
  have hks : IsKey .string (.string s) := trivial
  have hf : Instr.findNow .string (.string s) es.toList 0 = some none := by
    rcases findNow_spec (d := .string) hks es.toList 0 hk with ⟨h, _⟩ | ⟨j, e, _, h2, h3⟩
    · exact h
    · exact absurd h3 (hn e (List.mem_of_getElem? h2))
  simp [Instr.mapUpdate, run_underlying hm, Go.MapKept.run_getObj_map hb, Go.MapKept.run_checkKey hd hks, Go.MapKept.run_findKey hd hf, Go.MapKept.run_setObj_map _ hb, Result.andThen]
  exact set_alloc w _ _
/-- A look-up of what is there. -/
theorem run_look_hit (hm : P.underlying mty = some (.map kt et)) (hd : P.underlying kt = some .string) (w : World) (r : Nat) (es : Array MapEntry) (clock : Nat) (hb : w.heap[r]? = some (.map es clock)) (s : ByteArray) (i : Nat) (v : Value)
    (hf : Instr.findNow .string (.string s) es.toList 0 = some (some (i, v))) :
    (Instr.lookup mty (.map (some r)) (.string s) true).run P w = .ok (.tuple #[v, .bool true]) w := by
  have hks : IsKey .string (.string s) := trivial
  simp [Instr.lookup, run_underlying hm, Go.MapKept.run_getObj_map hb, Go.MapKept.run_checkKey hd hks, Go.MapKept.run_findKey hd hf, Result.andThen]
/-- A look-up of what is not there. -/
theorem run_look_miss (hm : P.underlying mty = some (.map kt et)) (hd : P.underlying kt = some .string) (w : World) (r : Nat) (es : Array MapEntry) (clock : Nat) (hb : w.heap[r]? = some (.map es clock)) (s : ByteArray) (z : Value)
    (hf : Instr.findNow .string (.string s) es.toList 0 = some none) (hz : (zeroValue et).run P w = .ok z w) :
    (Instr.lookup mty (.map (some r)) (.string s) true).run P w = .ok (.tuple #[z, .bool false]) w := by
  have hks : IsKey .string (.string s) := trivial
  simp [Instr.lookup, run_underlying hm, Go.MapKept.run_getObj_map hb, Go.MapKept.run_checkKey hd hks, Go.MapKept.run_findKey hd hf, hz, Result.andThen]
end
theorem findNow_cons_hit (s : ByteArray) (v : Value) (b : Nat) (es : List MapEntry) (i : Nat) : Instr.findNow .string (.string s) ({ key := .string s, val := v, born := b } :: es) i = some (some (i, v)) := by
  simp [Instr.findNow, Instr.sameNow, (bytes_beq s s).2 rfl]
theorem findNow_cons_miss (s t : ByteArray) (v : Value) (b : Nat) (es : List MapEntry) (i : Nat) (h : s ≠ t) : Instr.findNow .string (.string s) ({ key := .string t, val := v, born := b } :: es) i = Instr.findNow .string (.string s) es (i + 1) := by
  have e : (s == t) = false := by
    cases hb : (s == t) with
    | false => rfl
    | true => exact absurd ((bytes_beq s t).1 hb) h
  simp [Instr.findNow, Instr.sameNow, e]
end Go.Proofs.YtgjllminidlolaaGreatDoor
/- Contracts: the command of a word. -/
set_option linter.unusedVariables false
namespace Go.Proofs.YtgjllminidlolaaGreatDoor
open Go.RowKit Go.MapKept

/-- The commands: a word, a number of words, a function. -/
def cmdTab : List (ByteArray × Int × Nat) := [
  (⟨#[114, 111, 97, 100]⟩, 3, 136),
  (⟨#[99, 108, 111, 115, 101]⟩, 2, 137),
  (⟨#[102, 97, 114]⟩, 2, 138),
  (⟨#[119, 97, 121]⟩, 2, 139),
  (⟨#[99, 111, 97, 99, 104]⟩, (-1), 140),
  (⟨#[99, 111, 97, 99, 104, 101, 115]⟩, 0, 141),
  (⟨#[112, 111, 115, 116]⟩, 4, 142),
  (⟨#[114, 105, 100, 101]⟩, 4, 143),
  (⟨#[105, 110, 115, 105, 100, 101]⟩, 2, 144),
  (⟨#[111, 117, 116, 115, 105, 100, 101]⟩, 2, 145),
  (⟨#[115, 101, 97, 116, 115]⟩, 0, 146)]
def cmdV (n : Int) (k : Nat) : Value := .agg #[.int .i64 n, .func (.func k) #[] #[]]
def cmdE (i : Nat) : List (ByteArray × Int × Nat) → List MapEntry
  | [] => []
  | (s, n, k) :: l => { key := .string s, val := cmdV n k, born := i } :: cmdE (i + 1) l
/-- The command of a word. -/
def cmdIn (s : ByteArray) : List (ByteArray × Int × Nat) → Option (Int × Nat)
  | [] => none
  | (t, n, k) :: l => if s = t then some (n, k) else cmdIn s l
def cmdOf (s : ByteArray) : Option (Int × Nat) := cmdIn s cmdTab
theorem cmd_find (s : ByteArray) : ∀ (l : List (ByteArray × Int × Nat)) (b i : Nat),
    match cmdIn s l with
    | some (n, k) => ∃ j, Instr.findNow .string (.string s) (cmdE b l) i = some (some (j, cmdV n k))
    | none => Instr.findNow .string (.string s) (cmdE b l) i = some none
  | [], b, i => by simp [cmdIn, cmdE, Instr.findNow]
  | (t, n, k) :: l, b, i => by
    by_cases h : s = t
    · subst h
      simp only [cmdIn, if_pos, cmdE]
      exact ⟨i, findNow_cons_hit s _ b _ i⟩
    · simp only [cmdIn, if_neg h, cmdE]
      rw [findNow_cons_miss s t _ b _ i h]
      exact cmd_find s l (b + 1) (i + 1)
def cmdCell : Obj := .cells #[.int .i64 0, .nilFunc] 113
/-- The world behind so many insertions. -/
def tabW (w : World) (i : Nat) : World := (w.alloc cmdCell).alloc (.map (cmdE 0 (cmdTab.take i)).toArray i)
theorem cmdE_app (l : List (ByteArray × Int × Nat)) : ∀ (b : Nat) (s : ByteArray) (n : Int) (k : Nat), cmdE b (l ++ [(s, n, k)]) = cmdE b l ++ [{ key := .string s, val := cmdV n k, born := b + l.length }] := by
  induction l with
  | nil => intro b s n k; simp [cmdE]
  | cons x l ih =>
    intro b s n k
    obtain ⟨t, m, j⟩ := x
    simp only [List.cons_append, cmdE, ih, List.length_cons]
    rw [show b + 1 + l.length = b + (l.length + 1) by omega]
theorem cmdE_keys (l : List (ByteArray × Int × Nat)) : ∀ (b : Nat), ∀ x ∈ cmdE b l, ∃ s, x.key = .string s ∧ s ∈ l.map (·.1) := by
  induction l with
  | nil => intro b x hx; simp [cmdE] at hx
  | cons y l ih =>
    intro b x hx
    obtain ⟨t, m, j⟩ := y
    simp only [cmdE, List.mem_cons] at hx
    rcases hx with rfl | hx
    · exact ⟨t, rfl, by simp⟩
    · obtain ⟨s, h1, h2⟩ := ih _ x hx
      exact ⟨s, h1, by simp [h2]⟩
theorem tab_size (w : World) (i : Nat) : (tabW w i).heap.size = w.heap.size + 2 := by
  show ((w.heap.push _).push _).size = _
  rw [Array.size_push, Array.size_push]
theorem tab_step (w : World) (i j : Nat) (hj : j = i + 1) (s : ByteArray) (n : Int) (k : Nat) (h : cmdTab[i]? = some (s, n, k)) (hn : ∀ t ∈ (cmdTab.take i).map (·.1), ¬ t.data.toList = s.data.toList) :
    (Instr.mapUpdate 200 (.map (some (w.heap.size + 1))) (.string s) (.agg #[.int .i64 n, .func (.func k) #[] #[]])).run Tryz.prog (tabW w i) = .ok () (tabW w j) := by
  subst hj
  have hi : i < cmdTab.length := (List.getElem?_eq_some_iff.1 h).1
  have e := run_update_new (P := Tryz.prog) Tryz.underlying200 Tryz.underlying9 (w.alloc cmdCell) (cmdE 0 (cmdTab.take i)).toArray i s (cmdV n k)
    (fun x hx => by obtain ⟨t, h1, -⟩ := cmdE_keys _ _ x hx; rw [h1]; trivial)
    (fun x hx he => by obtain ⟨t, h1, h2⟩ := cmdE_keys _ _ x hx; rw [h1] at he; injection he with he; subst he; exact hn _ h2 rfl)
  have hs : (w.alloc cmdCell).heap.size = w.heap.size + 1 := by
    show (w.heap.push _).size = _
    rw [Array.size_push]
  rw [hs] at e
  rw [tabW]
  refine Eq.trans e ?_
  rw [tabW, List.take_add_one, h]
  simp only [Option.toList, cmdE_app, List.length_take, Nat.zero_add, Nat.min_eq_left (Nat.le_of_lt hi), List.push_toArray]
/-- The command of a word is returned. -/
def CmdRet (s : ByteArray) (w : World) (e : Ending) (w' : World) : Prop := Below w.heap.size w w' ∧
  match cmdOf s with
  | some (n, k) => e = .returned (.tuple #[cmdV n k, .bool true])
  | none => e = .returned (.tuple #[.agg #[.int .i64 0, .nilFunc], .bool false])
set_option maxRecDepth 20000 in
set_option maxHeartbeats 1600000 in
theorem commandOf_any (s : ByteArray) (w : World) :
    Calls Tryz.prog 103 #[.string s] w (CmdRet s w) := by
  have hmk : (Instr.makeMap 200 none).run Tryz.prog (w.alloc (.cells #[.int .i64 0, .nilFunc] 113)) = .ok (.map (some (w.heap.size + 1))) (tabW w 0) := by
    have e : (Instr.makeMap 200 none).run Tryz.prog (w.alloc cmdCell) = .ok (.map (some (w.alloc cmdCell).heap.size)) ((w.alloc cmdCell).alloc (.map #[] 0)) := rfl
    have hs : (w.alloc cmdCell).heap.size = w.heap.size + 1 := by
      show (w.heap.push _).size = _
      rw [Array.size_push]
    rw [hs] at e
    exact e
  have h0 := tab_step w 0 1 rfl _ _ _ rfl (by decide)
  have h1 := tab_step w 1 2 rfl _ _ _ rfl (by decide)
  have h2 := tab_step w 2 3 rfl _ _ _ rfl (by decide)
  have h3 := tab_step w 3 4 rfl _ _ _ rfl (by decide)
  have h4 := tab_step w 4 5 rfl _ _ _ rfl (by decide)
  have h5 := tab_step w 5 6 rfl _ _ _ rfl (by decide)
  have h6 := tab_step w 6 7 rfl _ _ _ rfl (by decide)
  have h7 := tab_step w 7 8 rfl _ _ _ rfl (by decide)
  have h8 := tab_step w 8 9 rfl _ _ _ rfl (by decide)
  have h9 := tab_step w 9 10 rfl _ _ _ rfl (by decide)
  have h10 := tab_step w 10 11 rfl _ _ _ rfl (by decide)
  have hW : tabW w 11 = (w.alloc (.cells #[.int .i64 0, .nilFunc] 113)).alloc (.map (cmdE 0 cmdTab).toArray 11) := rfl
  have hcell : ((w.alloc (.cells #[.int .i64 0, .nilFunc] 113)).alloc (.map (cmdE 0 cmdTab).toArray 11)).heap[w.heap.size + 1]? = some (.map (cmdE 0 cmdTab).toArray 11) := by
    have e := (heap_alloc (w.alloc (.cells #[.int .i64 0, .nilFunc] 113)) (.map (cmdE 0 cmdTab).toArray 11)).1
    have hs : (w.alloc (.cells #[.int .i64 0, .nilFunc] 113)).heap.size = w.heap.size + 1 := by
      show (w.heap.push _).size = _
      rw [Array.size_push]
    rw [hs] at e
    exact e
  have hL : (∃ n k, cmdOf s = some (n, k) ∧ (Instr.lookup 200 (.map (some (w.heap.size + 1))) (.string s) true).run Tryz.prog ((w.alloc (.cells #[.int .i64 0, .nilFunc] 113)).alloc (.map (cmdE 0 cmdTab).toArray 11)) = .ok (.tuple #[.agg #[.int .i64 n, .func (.func k) #[] #[]], .bool true]) ((w.alloc (.cells #[.int .i64 0, .nilFunc] 113)).alloc (.map (cmdE 0 cmdTab).toArray 11))) ∨
      (cmdOf s = none ∧ (Instr.lookup 200 (.map (some (w.heap.size + 1))) (.string s) true).run Tryz.prog ((w.alloc (.cells #[.int .i64 0, .nilFunc] 113)).alloc (.map (cmdE 0 cmdTab).toArray 11)) = .ok (.tuple #[.agg #[.int .i64 0, .nilFunc], .bool false]) ((w.alloc (.cells #[.int .i64 0, .nilFunc] 113)).alloc (.map (cmdE 0 cmdTab).toArray 11))) := by
    have hf := cmd_find s cmdTab 0 0
    unfold cmdOf
    cases hc : cmdIn s cmdTab with
    | none =>
      rw [hc] at hf
      exact .inr ⟨rfl, run_look_miss Tryz.underlying200 Tryz.underlying9 _ _ _ _ hcell s _ hf (Tryz.zeroValue113 _)⟩
    | some x =>
      obtain ⟨n, k⟩ := x
      rw [hc] at hf
      obtain ⟨j, hf⟩ := hf
      exact .inl ⟨n, k, rfl, run_look_hit Tryz.underlying200 Tryz.underlying9 _ _ _ _ hcell s _ _ hf⟩
  generalize (cmdE 0 cmdTab).toArray = ES at *
  have HL := Lib.hid hL
  have HW := Lib.hid hW
  clear hL hW hcell
  generalize hT : tabW w = T at *
  clear hT
  go_enter Tryz.func103, Tryz.ntmps103
  go_upto_region 2 with (fail)
  clear hmk h0 h1 h2 h3 h4 h5 h6 h7 h8 h9 h10
  rw [HW.out]
  clear HW
  have hB := fun (o1 o2 o3 : Obj) => Lib.hid ((((Below.refl w.heap.size w).alloc (Nat.le_refl _) o1).alloc (by show _ ≤ (w.heap.push _).size; rw [Array.size_push]; omega) o2).alloc (by show _ ≤ ((w.heap.push _).push _).size; rw [Array.size_push, Array.size_push]; omega) o3)
  rcases HL.out with ⟨n, k, hc, hl⟩ | ⟨hc, hl⟩
  · have HC := Lib.hid hc
    clear hc HL
    go_wp2_with fail
    refine bodyPost_ret (v := .tuple #[.agg #[.int .i64 n, .func (.func k) #[] #[]], .bool true]) (by rw [results_cell_tmp rfl]; go_simp) rfl ?_
    refine ⟨(hB _ _ _).out, ?_⟩
    rw [HC.out]
    rfl
  · have HC := Lib.hid hc
    clear hc HL
    go_wp2_with fail
    refine bodyPost_ret (v := .tuple #[.agg #[.int .i64 0, .nilFunc], .bool false]) (by rw [results_cell_tmp rfl]; go_simp) rfl ?_
    refine ⟨(hB _ _ _).out, ?_⟩
    rw [HC.out]
end Go.Proofs.YtgjllminidlolaaGreatDoor
/- Contracts of the library taken over at this program: strings.Split, strings.Join, strconv.Itoa below 100. No statement of the seat is proved here. -/
namespace Go.Proofs
open Go.Shelf
def Tryz.lays156_ren : Go.Shelf.Ren := ⟨fun | 156 => 38 | 165 => 69 | 166 => 70 | 169 => 71 | 240 => 106 | 241 => 107 | 276 => 148 | 277 => 149 | n => n, fun | 31 => 60 | 9 => 9 | 3 => 3 | 4 => 4 | 0 => 0 | 20 => 20 | 72 => 119 | 76 => 123 | 70 => 117 | 37 => 22 | 75 => 122 | 127 => 173 | 164 => 202 | 5 => 5 | 80 => 63 | n => n, fun | n => n⟩
theorem Tryz.lays156 : Go.Proofs.Lays.n156 Tryz.prog Tryz.lays156_ren := {
  mixed := by kernel_rfl
  f156 := Tryz.func38.trans (congrArg some (by kernel_rfl))
  f165 := Tryz.func69.trans (congrArg some (by kernel_rfl))
  f166 := Tryz.func70.trans (congrArg some (by kernel_rfl))
  f169 := Tryz.func71.trans (congrArg some (by kernel_rfl))
  f240 := Tryz.func106.trans (congrArg some (by kernel_rfl))
  f241 := Tryz.func107.trans (congrArg some (by kernel_rfl))
  f276 := Tryz.func148.trans (congrArg some (by kernel_rfl))
  f277 := Tryz.func149.trans (congrArg some (by kernel_rfl))
  t0 := Tryz.underlying0
  a0 := Tryz.isAgg0
  z0 := Tryz.sizeOf0
  v0 := Tryz.zeroValue0
  t3 := Tryz.underlying3
  a3 := Tryz.isAgg3
  z3 := Tryz.sizeOf3
  v3 := Tryz.zeroValue3
  t4 := Tryz.underlying4
  a4 := Tryz.isAgg4
  z4 := Tryz.sizeOf4
  v4 := Tryz.zeroValue4
  t9 := Tryz.underlying9
  a9 := Tryz.isAgg9
  z9 := Tryz.sizeOf9
  v9 := Tryz.zeroValue9
  t20 := Tryz.underlying20
  a20 := Tryz.isAgg20
  z20 := Tryz.sizeOf20
  v20 := Tryz.zeroValue20
  t31 := Tryz.underlying60
  a31 := Tryz.isAgg60
  z31 := Tryz.sizeOf60
  v31 := Tryz.zeroValue60
  t37 := Tryz.underlying22
  a37 := Tryz.isAgg22
  z37 := Tryz.sizeOf22
  v37 := Tryz.zeroValue22
  t70 := Tryz.underlying117
  a70 := Tryz.isAgg117
  z70 := Tryz.sizeOf117
  v70 := Tryz.zeroValue117
  t72 := Tryz.underlying119
  a72 := Tryz.isAgg119
  z72 := Tryz.sizeOf119
  v72 := Tryz.zeroValue119
  t75 := Tryz.underlying122
  a75 := Tryz.isAgg122
  z75 := Tryz.sizeOf122
  v75 := Tryz.zeroValue122
  t76 := Tryz.underlying123
  a76 := Tryz.isAgg123
  z76 := Tryz.sizeOf123
  v76 := Tryz.zeroValue123
  t127 := Tryz.underlying173
  a127 := Tryz.isAgg173
  z127 := Tryz.sizeOf173
  v127 := Tryz.zeroValue173
  t164 := Tryz.underlying202
  a164 := Tryz.isAgg202
  z164 := Tryz.sizeOf202
  v164 := Tryz.zeroValue202 }
theorem Tryz.Builder_Extra_156 : Builder.Extra Tryz.prog Tryz.lays156_ren := {
  sizeBuilder := by kernel_rfl
  liesBuilder := by kernel_rfl
  t5 := Tryz.underlying5
  a5 := Tryz.isAgg5
  z5 := Tryz.sizeOf5
  v5 := Tryz.zeroValue5
  infoByte := by kernel_rfl
  cellsByte := by kernel_rfl
  sizeByte := by kernel_rfl
  neB5 := by decide }
open Go.RowKit in
/-- No element: the empty string; the world is as it was. (Whatever the slice's address and capacity: a nil slice too.) (LAID: no walk: one application.) -/
theorem Tryz.strings_Join_none (a : Option Addr) (c : Nat) (sep : ByteArray) (w : World) :
    Calls Tryz.prog 38 #[.slice a 0 c, .string sep] w fun e w' => e = .returned (.string ⟨#[]⟩) ∧ w' = w := Any.strings_Join_none Tryz.lays156 Tryz.Builder_Extra_156 a c sep w
open Go.RowKit in
/-- strings.Join: "Join concatenates the elements of its first argument to create a single string. The separator string sep is placed between elements in the resulting string.": HOWEVER MANY ELEMENTS. Below the heap's end the world is as it was. (LAID: no walk: one application.) -/
theorem Tryz.strings_Join (bk o c : Nat) (xs : List ByteArray) (sep : ByteArray) (w : World) (hcells : ∀ (j : Nat) x, xs[j]? = some x → w.cell? ⟨bk, o + j, none⟩ = some (.string x)) (hbk : bk < w.heap.size) (hN : xs.length ≤ 140737488355328) (hcap : xs.length ≤ c) (hlen : (Lib.join (xs.map (·.data.toList)) sep.data.toList).length ≤ 140737488355328) :
    Calls Tryz.prog 38 #[.slice (some ⟨bk, o, none⟩) xs.length c, .string sep] w fun e w' => e = .returned (.string ⟨(Lib.join (xs.map (·.data.toList)) sep.data.toList).toArray⟩) ∧ Below w.heap.size w w' := Any.strings_Join Tryz.lays156 Tryz.Builder_Extra_156 bk o c xs sep w hcells hbk hN hcap hlen
def Tryz.lays171_ren : Go.Shelf.Ren := ⟨fun | 171 => 68 | 243 => 105 | 246 => 147 | 283 => 185 | 284 => 186 | 285 => 187 | 286 => 188 | 129 => 164 | 317 => 213 | 318 => 214 | 319 => 215 | 320 => 216 | 337 => 225 | 338 => 226 | n => n, fun | 3 => 3 | 9 => 9 | 2 => 2 | 4 => 4 | 171 => 231 | 0 => 0 | 53 => 222 | 37 => 22 | 5 => 5 | 173 => 233 | 212 => 264 | 51 => 220 | 20 => 20 | 213 => 265 | 46 => 73 | 232 => 276 | 233 => 277 | n => n, fun | 17 => 3 | 18 => 4 | 19 => 5 | n => n⟩
theorem Tryz.lays171 : Go.Proofs.Lays.n171 Tryz.prog Tryz.lays171_ren := {
  mixed := by kernel_rfl
  f129 := Tryz.func164.trans (congrArg some (by kernel_rfl))
  f171 := Tryz.func68.trans (congrArg some (by kernel_rfl))
  f243 := Tryz.func105.trans (congrArg some (by kernel_rfl))
  f246 := Tryz.func147.trans (congrArg some (by kernel_rfl))
  f283 := Tryz.func185.trans (congrArg some (by kernel_rfl))
  f284 := Tryz.func186.trans (congrArg some (by kernel_rfl))
  f285 := Tryz.func187.trans (congrArg some (by kernel_rfl))
  f286 := Tryz.func188.trans (congrArg some (by kernel_rfl))
  f317 := Tryz.func213.trans (congrArg some (by kernel_rfl))
  f318 := Tryz.func214.trans (congrArg some (by kernel_rfl))
  f319 := Tryz.func215.trans (congrArg some (by kernel_rfl))
  f320 := Tryz.func216.trans (congrArg some (by kernel_rfl))
  f337 := Tryz.func225.trans (congrArg some (by kernel_rfl))
  f338 := Tryz.func226.trans (congrArg some (by kernel_rfl))
  t0 := Tryz.underlying0
  a0 := Tryz.isAgg0
  z0 := Tryz.sizeOf0
  v0 := Tryz.zeroValue0
  t2 := Tryz.underlying2
  a2 := Tryz.isAgg2
  z2 := Tryz.sizeOf2
  v2 := Tryz.zeroValue2
  t3 := Tryz.underlying3
  a3 := Tryz.isAgg3
  z3 := Tryz.sizeOf3
  v3 := Tryz.zeroValue3
  t4 := Tryz.underlying4
  a4 := Tryz.isAgg4
  z4 := Tryz.sizeOf4
  v4 := Tryz.zeroValue4
  t5 := Tryz.underlying5
  a5 := Tryz.isAgg5
  z5 := Tryz.sizeOf5
  v5 := Tryz.zeroValue5
  t9 := Tryz.underlying9
  a9 := Tryz.isAgg9
  z9 := Tryz.sizeOf9
  v9 := Tryz.zeroValue9
  t20 := Tryz.underlying20
  a20 := Tryz.isAgg20
  z20 := Tryz.sizeOf20
  v20 := Tryz.zeroValue20
  t37 := Tryz.underlying22
  a37 := Tryz.isAgg22
  z37 := Tryz.sizeOf22
  v37 := Tryz.zeroValue22
  t46 := Tryz.underlying73
  a46 := Tryz.isAgg73
  z46 := Tryz.sizeOf73
  v46 := Tryz.zeroValue73
  t51 := Tryz.underlying220
  a51 := Tryz.isAgg220
  z51 := Tryz.sizeOf220
  v51 := Tryz.zeroValue220
  t53 := Tryz.underlying222
  a53 := Tryz.isAgg222
  z53 := Tryz.sizeOf222
  v53 := Tryz.zeroValue222
  t171 := Tryz.underlying231
  a171 := Tryz.isAgg231
  z171 := Tryz.sizeOf231
  v171 := Tryz.zeroValue231
  t173 := Tryz.underlying233
  a173 := Tryz.isAgg233
  z173 := Tryz.sizeOf233
  v173 := Tryz.zeroValue233
  t212 := Tryz.underlying264
  a212 := Tryz.isAgg264
  z212 := Tryz.sizeOf264
  v212 := Tryz.zeroValue264
  t213 := Tryz.underlying265
  a213 := Tryz.isAgg265
  z213 := Tryz.sizeOf265
  t232 := Tryz.underlying276
  a232 := Tryz.isAgg276
  z232 := Tryz.sizeOf276
  v232 := Tryz.zeroValue276
  t233 := Tryz.underlying277
  a233 := Tryz.isAgg277
  z233 := Tryz.sizeOf277
  v233 := Tryz.zeroValue277
  g17 := by kernel_rfl
  g18 := by kernel_rfl
  g19 := by kernel_rfl }
open Go.RowKit Go.Sort Go.Lib in
/-- THE ROAD WITHOUT THE TABLE: 0 <= i < 100: NO PREMISE ON THE WORLD, AND THE WORLD IS AS IT WAS: a row that keeps its argument in that range need list no table ('laid = []'). (LAID: no walk: one application.) -/
theorem Tryz.strconv_Itoa_small (i : Nat) (hi : i < 100) (w : World) :
    Calls Tryz.prog 68 #[.int .i64 i] w fun e w' => e = .returned (.string ⟨(Lib.decDigits i).toArray⟩) ∧ w' = w := Any.strconv_Itoa_small Tryz.lays171 i hi w
def Tryz.lays146_ren : Go.Shelf.Ren := ⟨fun | 146 => 35 | 221 => 65 | 268 => 100 | 138 => 101 | 143 => 102 | 195 => 132 | 197 => 133 | 218 => 134 | 219 => 135 | 260 => 171 | 217 => 172 | 225 => 173 | 224 => 174 | 267 => 175 | 266 => 200 | 314 => 201 | n => n, fun | 9 => 9 | 31 => 60 | 3 => 3 | 4 => 4 | 0 => 0 | 105 => 196 | 21 => 21 | 5 => 5 | 46 => 73 | 119 => 248 | 139 => 251 | 138 => 250 | 146 => 244 | 51 => 220 | n => n, fun | 1 => 0 | 3 => 1 | 4 => 2 | n => n⟩
theorem Tryz.lays146 : Go.Proofs.Lays.n146 Tryz.prog Tryz.lays146_ren := {
  mixed := by kernel_rfl
  f138 := Tryz.func101.trans (congrArg some (by kernel_rfl))
  f143 := Tryz.func102.trans (congrArg some (by kernel_rfl))
  f146 := Tryz.func35.trans (congrArg some (by kernel_rfl))
  f195 := Tryz.func132.trans (congrArg some (by kernel_rfl))
  f197 := Tryz.func133.trans (congrArg some (by kernel_rfl))
  f217 := Tryz.func172.trans (congrArg some (by kernel_rfl))
  f218 := Tryz.func134.trans (congrArg some (by kernel_rfl))
  f219 := Tryz.func135.trans (congrArg some (by kernel_rfl))
  f221 := Tryz.func65.trans (congrArg some (by kernel_rfl))
  f224 := Tryz.func174.trans (congrArg some (by kernel_rfl))
  f225 := Tryz.func173.trans (congrArg some (by kernel_rfl))
  f260 := Tryz.func171.trans (congrArg some (by kernel_rfl))
  f266 := Tryz.func200.trans (congrArg some (by kernel_rfl))
  f267 := Tryz.func175.trans (congrArg some (by kernel_rfl))
  f268 := Tryz.func100.trans (congrArg some (by kernel_rfl))
  f314 := Tryz.func201.trans (congrArg some (by kernel_rfl))
  t0 := Tryz.underlying0
  a0 := Tryz.isAgg0
  z0 := Tryz.sizeOf0
  v0 := Tryz.zeroValue0
  t3 := Tryz.underlying3
  a3 := Tryz.isAgg3
  z3 := Tryz.sizeOf3
  v3 := Tryz.zeroValue3
  t4 := Tryz.underlying4
  a4 := Tryz.isAgg4
  z4 := Tryz.sizeOf4
  v4 := Tryz.zeroValue4
  t5 := Tryz.underlying5
  a5 := Tryz.isAgg5
  z5 := Tryz.sizeOf5
  v5 := Tryz.zeroValue5
  t9 := Tryz.underlying9
  a9 := Tryz.isAgg9
  z9 := Tryz.sizeOf9
  v9 := Tryz.zeroValue9
  t21 := Tryz.underlying21
  a21 := Tryz.isAgg21
  z21 := Tryz.sizeOf21
  v21 := Tryz.zeroValue21
  t31 := Tryz.underlying60
  a31 := Tryz.isAgg60
  z31 := Tryz.sizeOf60
  v31 := Tryz.zeroValue60
  t46 := Tryz.underlying73
  a46 := Tryz.isAgg73
  z46 := Tryz.sizeOf73
  v46 := Tryz.zeroValue73
  t51 := Tryz.underlying220
  a51 := Tryz.isAgg220
  z51 := Tryz.sizeOf220
  v51 := Tryz.zeroValue220
  t105 := Tryz.underlying196
  a105 := Tryz.isAgg196
  z105 := Tryz.sizeOf196
  v105 := Tryz.zeroValue196
  t119 := Tryz.underlying248
  a119 := Tryz.isAgg248
  z119 := Tryz.sizeOf248
  t138 := Tryz.underlying250
  a138 := Tryz.isAgg250
  z138 := Tryz.sizeOf250
  v138 := Tryz.zeroValue250
  t139 := Tryz.underlying251
  a139 := Tryz.isAgg251
  z139 := Tryz.sizeOf251
  v139 := Tryz.zeroValue251
  t146 := Tryz.underlying244
  a146 := Tryz.isAgg244
  z146 := Tryz.sizeOf244
  v146 := Tryz.zeroValue244
  g1 := by kernel_rfl
  g3 := by kernel_rfl
  g4 := by kernel_rfl }
open Go.RowKit Go.Lib in
/-- strings.Split. (LAID: no walk: one application.) -/
theorem Tryz.strings_Split (s sep : ByteArray) (m : Int) (w : World) (hs : s.size < 4294967281) (hm : w.cell? ⟨0, 0, none⟩ = some (.int .i64 m)) (h1 : 1 ≤ sep.size) :
    Calls Tryz.prog 35 #[.string s, .string sep] w fun e w' =>
      e = .returned (.slice (some ⟨w.heap.size, 0, none⟩) (Lib.countB s sep + 1) (Lib.countB s sep + 1)) ∧ w' = w.alloc (.cells ((Lib.splitB sep 0 (Lib.countB s sep) s).map Value.string).toArray 9) := Any.strings_Split Tryz.lays146 (by kernel_rfl) s sep m w hs hm h1
end Go.Proofs
/- What the proofs on scripts share: the state of a script in memory. No statement of the seat is proved here. -/
set_option linter.unusedVariables false
namespace Go.Proofs.YtgjllminidlolaaGreatDoor
open Go.RowKit

def encS (s : ByteArray) : List Value := [.string s]
theorem encS_len (s : ByteArray) : (encS s).length = 1 := rfl
theorem encS_one (s : ByteArray) : ∀ u ∈ encS s, u.oneCell' = true := by
  intro u hu; simp [encS] at hu; subst hu; rfl
theorem info_str : (Tryz.prog.info? 9).map (fun i => (i.zero, i.size, i.bytes)) = some (some (.string ⟨#[]⟩), 1, 16) := by kernel_rfl
def encV (v : Value) : List Value := [v]
theorem encV_len (v : Value) : (encV v).length = 1 := rfl
theorem flat_encV (vs : List Value) : vs.flatMap encV = vs := by
  induction vs with
  | nil => rfl
  | cons x xs ih => rw [List.flatMap_cons, ih]; rfl
theorem flat_encS (xs : List ByteArray) : xs.flatMap encS = xs.map Value.string := by
  induction xs with
  | nil => rfl
  | cons x xs ih => simp [encS, ih]

def NoBad (bad : Nat → Prop) (v : Value) : Prop := ∀ j, v.ownBlock = some j → ¬ bad j
/-- The coaches of a script in memory. -/
def NetOwn (bad : Nat → Prop) (base : Nat) (W : World) (v : Value) (net : List (List T3)) : Prop :=
  ∃ vs : List Value, OwnE 1 encV 50 base W v vs ∧ NoBad bad v ∧ vs.length = net.length ∧
    ∀ (j : Nat) (u : Value) (xs : List T3), vs[j]? = some u → net[j]? = some xs → OwnE 3 enc3 103 base W u xs ∧ NoBad bad u
/-- The office of a script in memory. -/
def OffAt (R : Nat) (vr vc vb : Value) (W : World) : Prop :=
  W.cell? ⟨R, 0, none⟩ = some vr ∧ W.cell? ⟨R, 1, none⟩ = some vc ∧ W.cell? ⟨R, 2, none⟩ = some vb ∧ ∀ j, W.frozen? ⟨R, j, none⟩ = false
/-- A script's state, in memory of its own that avoids some blocks. -/
def St (w0 : World) (R : Nat) (s : LSt) (av : Nat → Prop) (W : World) : Prop :=
  w0.heap.size ≤ R ∧ R < W.heap.size ∧ Below w0.heap.size w0 W ∧ ¬ av R ∧ ∃ vr vc vb, OffAt R vr vc vb W ∧
    (OwnE 3 enc3 43 w0.heap.size W vr s.roads ∧ NoBad (fun j => j = R ∨ av j) vr) ∧
    NetOwn (fun j => j = R ∨ av j) w0.heap.size W vc s.net ∧
    (OwnE 3 encB 34 w0.heap.size W vb s.list ∧ NoBad (fun j => j = R ∨ av j) vb)

theorem noBad_ne {bad : Nat → Prop} {v : Value} {g : Nat} (h : NoBad bad v) (hg : bad g) : v.ownBlock = none ∨ v.ownBlock ≠ some g := by
  cases hv : v.ownBlock with
  | none => exact .inl rfl
  | some j => exact .inr fun e => by injection e with e; subst e; exact h j hv hg
theorem noBad_mono {bad bad' : Nat → Prop} {v : Value} (h : NoBad bad v) (hb : ∀ j, v.ownBlock = some j → bad' j → bad j) : NoBad bad' v := fun j hj hb' => h j hj (hb j hj hb')
theorem ne_none {v : Value} : v.ownBlock = none ∨ v.ownBlock ≠ none := by
  cases v.ownBlock with
  | none => exact .inl rfl
  | some j => exact .inr (by simp)
theorem NetOwn.kept {bad : Nat → Prop} {base : Nat} {W W' : World} {row : Option Nat} {v : Value} {net : List (List T3)} (h : NetOwn bad base W v net) (hg : W.grownBy W' row) (hr : ∀ g, row = some g → bad g) : NetOwn bad base W' v net := by
  have ap : ∀ u, NoBad bad u → u.ownBlock = none ∨ u.ownBlock ≠ row := fun u hu => by
    cases row with
    | none => exact ne_none
    | some g => exact noBad_ne hu (hr g rfl)
  obtain ⟨vs, h1, h2, h3, h4⟩ := h
  exact ⟨vs, h1.apart hg (ap _ h2), h2, h3, fun j u xs hu hx => ⟨(h4 j u xs hu hx).1.apart hg (ap _ (h4 j u xs hu hx).2), (h4 j u xs hu hx).2⟩⟩
theorem grown_frozen {w w' : World} {row : Option Nat} {g j : Nat} (h : w.grownBy w' row) (hg : g < w.heap.size) (hne : row ≠ some g) : w'.frozen? ⟨g, j, none⟩ = w.frozen? ⟨g, j, none⟩ := by
  exact World.frozen?_of_block (w := w) (h.block g hg (fun e => hne e.symm))
theorem OffAt.kept {R : Nat} {vr vc vb : Value} {W W' : World} {row : Option Nat} (h : OffAt R vr vc vb W) (hR : R < W.heap.size) (hg : W.grownBy W' row) (hr : row ≠ some R) : OffAt R vr vc vb W' :=
  ⟨by rw [grown_cell hg hR hr]; exact h.1, by rw [grown_cell hg hR hr]; exact h.2.1, by rw [grown_cell hg hR hr]; exact h.2.2.1, fun j => by rw [grown_frozen hg hR hr]; exact h.2.2.2 j⟩
theorem St.kept {w0 W W' : World} {R : Nat} {s : LSt} {av : Nat → Prop} {row : Option Nat} (h : St w0 R s av W) (hg : W.grownBy W' row) (hr : ∀ g, row = some g → av g ∧ w0.heap.size ≤ g) : St w0 R s av W' := by
  obtain ⟨h1, h2, h3, h4, vr, vc, vb, ho, ⟨hv1, hv2⟩, hn, hb1, hb2⟩ := h
  have ap : ∀ u, NoBad (fun j => j = R ∨ av j) u → u.ownBlock = none ∨ u.ownBlock ≠ row := fun u hu => by
    cases row with
    | none => exact ne_none
    | some g => exact noBad_ne hu (.inr (hr g rfl).1)
  exact ⟨h1, Nat.lt_of_lt_of_le h2 hg.size, h3.grown hg h3.size (fun k hk => (hr k hk).2), h4, vr, vc, vb, ho.kept h2 hg (fun e => h4 (hr R e).1),
    ⟨hv1.apart hg (ap _ hv2), hv2⟩, hn.kept hg (fun g hgr => .inr (hr g hgr).1), hb1.apart hg (ap _ hb2), hb2⟩
theorem St.below {w0 W W' : World} {R : Nat} {s : LSt} {av : Nat → Prop} (h : St w0 R s av W) (hb : Below W.heap.size W W') : St w0 R s av W' :=
  h.kept (row := none) ⟨hb.os, hb.tape, hb.output, hb.size, fun j hj _ => hb.block j hj⟩ (fun g hg => by simp at hg)
theorem St.fewer {w0 W : World} {R : Nat} {s : LSt} {av av' : Nat → Prop} (h : St w0 R s av W) (ha : ∀ j, j < W.heap.size → av' j → av j) : St w0 R s av' W := by
  obtain ⟨h1, h2, h3, h4, vr, vc, vb, ho, ⟨hv1, hv2⟩, ⟨vs, n1, n2, n3, n4⟩, hb1, hb2⟩ := h
  exact ⟨h1, h2, h3, fun e => h4 (ha _ h2 e), vr, vc, vb, ho, ⟨hv1, noBad_mono hv2 (fun j hj hb => hb.imp id (ha j (hv1.lt j hj).2))⟩,
    ⟨vs, n1, noBad_mono n2 (fun j hj hb => hb.imp id (ha j (n1.lt j hj).2)), n3, fun j u xs hu hx => ⟨(n4 j u xs hu hx).1, noBad_mono (n4 j u xs hu hx).2 (fun i hi hb => hb.imp id (ha i ((n4 j u xs hu hx).1.lt i hi).2))⟩⟩,
    hb1, noBad_mono hb2 (fun j hj hb => hb.imp id (ha j (hb1.lt j hj).2))⟩
theorem grown_setCell (W : World) (a : Addr) (v : Value) : W.grownBy (W.setCell a v) (some a.block) :=
  ⟨rfl, rfl, rfl, by rw [show (W.setCell a v).heap.size = W.heap.size by simp [World.setCell]]; exact Nat.le_refl _, fun k _ hk => Below.heap_setCell _ _ _ k (fun e => hk (by rw [e]))⟩
/-- The bookings are put. -/
theorem St.putB {w0 W : World} {R : Nat} {s : LSt} {av : Nat → Prop} {v : Value} {xs : List B3} (h : St w0 R s av W) (hv : OwnE 3 encB 34 w0.heap.size W v xs) (hb : NoBad (fun j => j = R ∨ av j) v) :
    St w0 R { s with list := xs } av (W.setCell ⟨R, 2, none⟩ v) := by
  obtain ⟨h1, h2, h3, h4, vr, vc, vb, ⟨o1, o2, o3, o4⟩, ⟨hv1, hv2⟩, hn, hb1, hb2⟩ := h
  have hg := grown_setCell W ⟨R, 2, none⟩ v
  exact ⟨h1, Nat.lt_of_lt_of_le h2 hg.size, h3.grown hg h3.size (fun k hk => by injection hk with hk; subst hk; exact h1), h4, vr, vc, v,
    ⟨by rw [World.cell?_setCell_other _ _ _ _ (by simp)]; exact o1, by rw [World.cell?_setCell_other _ _ _ _ (by simp)]; exact o2, World.cell?_setCell_same _ _ _ o3, fun j => by rw [World.frozen?_setCell]; exact o4 j⟩,
    ⟨hv1.apart hg (noBad_ne hv2 (.inl rfl)), hv2⟩, hn.kept hg (fun g hgr => by injection hgr with hgr; exact .inl hgr.symm), hv.apart hg (noBad_ne hb (.inl rfl)), hb⟩
/-- What is needed of the library's variables. -/
def Env (w : World) : Prop := 0 < w.heap.size ∧ (∃ m, w.cell? ⟨0, 0, none⟩ = some (.int .i64 m)) ∧ Lib.TabIs Tryz.prog w "internal/strconv.uint64pow10" .u64 Lib.pow10Tab
theorem Env.below {w W : World} {B : Nat} (h : Env w) (hb : Below B w W) (hB : 0 < B) : ∃ m, W.cell? ⟨0, 0, none⟩ = some (.int .i64 m) := by
  obtain ⟨h1, ⟨m, h2⟩, _⟩ := h
  refine ⟨m, ?_⟩
  rw [hb.cell (by simpa using hB)]
  exact h2
/-- A table of the library stays as it is. -/
theorem tab_later {w W : World} {nm : String} {k : IntKind} {zs : List Int} {g : Nat} (hg : Tryz.prog.globalNamed nm = some g) (h : Lib.TabIs Tryz.prog w nm k zs) (hb : Below w.heap.size w W) : Lib.TabIs Tryz.prog W nm k zs := by
  have hlt : g < w.heap.size := by
    rcases Nat.lt_or_ge g w.heap.size with h' | h'
    · exact h'
    · unfold Lib.TabIs World.var? at h
      rw [hg] at h
      simp only [Option.bind_some] at h
      rw [Array.getElem?_eq_none h'] at h
      cases h
  unfold Lib.TabIs World.var? at *
  rw [hg] at h ⊢
  simp only [Option.bind_some] at h ⊢
  rw [hb.block g hlt]
  exact h
theorem Env.later {w W : World} (h : Env w) (hb : Below w.heap.size w W) : Env W := ⟨Nat.lt_of_lt_of_le h.1 hb.size, h.below hb h.1, tab_later (g := 3) (by kernel_rfl) h.2.2 hb⟩
end Go.Proofs.YtgjllminidlolaaGreatDoor
/- The contract of strconv.Itoa at every number, taken over at this program. No statement of the seat is proved here. -/
namespace Go.Proofs
open Go.Shelf
def Tryz.laysM171_ren : Go.Shelf.Ren := ⟨fun | 171 => 68 | 243 => 105 | 246 => 147 | 283 => 185 | 284 => 186 | 285 => 187 | 286 => 188 | 129 => 164 | 317 => 213 | 318 => 214 | 319 => 215 | 320 => 216 | 337 => 225 | 338 => 226 | n => n, fun | 3 => 3 | 9 => 9 | 2 => 2 | 4 => 4 | 171 => 231 | 0 => 0 | 53 => 222 | 37 => 22 | 5 => 5 | 173 => 233 | 212 => 264 | 51 => 220 | 20 => 20 | 213 => 265 | 46 => 73 | 232 => 276 | 233 => 277 | n => n, fun | 17 => 3 | 18 => 4 | 19 => 5 | n => n⟩
theorem Tryz.laysM171 : Go.Proofs.LaysM.n171 Tryz.prog Tryz.laysM171_ren := {
  mixed := by kernel_rfl
  f129 := Tryz.func164.trans (congrArg some (by kernel_rfl))
  f171 := Tryz.func68.trans (congrArg some (by kernel_rfl))
  f243 := Tryz.func105.trans (congrArg some (by kernel_rfl))
  f246 := Tryz.func147.trans (congrArg some (by kernel_rfl))
  f283 := Tryz.func185.trans (congrArg some (by kernel_rfl))
  f284 := Tryz.func186.trans (congrArg some (by kernel_rfl))
  f285 := Tryz.func187.trans (congrArg some (by kernel_rfl))
  f286 := Tryz.func188.trans (congrArg some (by kernel_rfl))
  f317 := Tryz.func213.trans (congrArg some (by kernel_rfl))
  f318 := Tryz.func214.trans (congrArg some (by kernel_rfl))
  f319 := Tryz.func215.trans (congrArg some (by kernel_rfl))
  f320 := Tryz.func216.trans (congrArg some (by kernel_rfl))
  f337 := Tryz.func225.trans (congrArg some (by kernel_rfl))
  f338 := Tryz.func226.trans (congrArg some (by kernel_rfl))
  t0 := Tryz.underlying0
  a0 := Tryz.isAgg0
  z0 := Tryz.sizeOf0
  v0 := Tryz.zeroValue0
  t2 := Tryz.underlying2
  a2 := Tryz.isAgg2
  z2 := Tryz.sizeOf2
  v2 := Tryz.zeroValue2
  t3 := Tryz.underlying3
  a3 := Tryz.isAgg3
  z3 := Tryz.sizeOf3
  v3 := Tryz.zeroValue3
  t4 := Tryz.underlying4
  a4 := Tryz.isAgg4
  z4 := Tryz.sizeOf4
  v4 := Tryz.zeroValue4
  t5 := Tryz.underlying5
  a5 := Tryz.isAgg5
  z5 := Tryz.sizeOf5
  v5 := Tryz.zeroValue5
  t9 := Tryz.underlying9
  a9 := Tryz.isAgg9
  z9 := Tryz.sizeOf9
  v9 := Tryz.zeroValue9
  t20 := Tryz.underlying20
  a20 := Tryz.isAgg20
  z20 := Tryz.sizeOf20
  v20 := Tryz.zeroValue20
  t37 := Tryz.underlying22
  a37 := Tryz.isAgg22
  z37 := Tryz.sizeOf22
  v37 := Tryz.zeroValue22
  t46 := Tryz.underlying73
  a46 := Tryz.isAgg73
  z46 := Tryz.sizeOf73
  v46 := Tryz.zeroValue73
  t51 := Tryz.underlying220
  a51 := Tryz.isAgg220
  z51 := Tryz.sizeOf220
  v51 := Tryz.zeroValue220
  t53 := Tryz.underlying222
  a53 := Tryz.isAgg222
  z53 := Tryz.sizeOf222
  v53 := Tryz.zeroValue222
  t171 := Tryz.underlying231
  a171 := Tryz.isAgg231
  z171 := Tryz.sizeOf231
  v171 := Tryz.zeroValue231
  t173 := Tryz.underlying233
  a173 := Tryz.isAgg233
  z173 := Tryz.sizeOf233
  v173 := Tryz.zeroValue233
  t212 := Tryz.underlying264
  a212 := Tryz.isAgg264
  z212 := Tryz.sizeOf264
  v212 := Tryz.zeroValue264
  t213 := Tryz.underlying265
  a213 := Tryz.isAgg265
  z213 := Tryz.sizeOf265
  t232 := Tryz.underlying276
  a232 := Tryz.isAgg276
  z232 := Tryz.sizeOf276
  v232 := Tryz.zeroValue276
  t233 := Tryz.underlying277
  a233 := Tryz.isAgg277
  z233 := Tryz.sizeOf277
  v233 := Tryz.zeroValue277
  g17 := by kernel_rfl
  g18 := by kernel_rfl
  g19 := by kernel_rfl
  i0 := by kernel_rfl
  i2 := by kernel_rfl
  i3 := by kernel_rfl
  i4 := by kernel_rfl
  i5 := by kernel_rfl
  i9 := by kernel_rfl
  i20 := by kernel_rfl
  i37 := by kernel_rfl
  i46 := by kernel_rfl
  i51 := by kernel_rfl
  i53 := by kernel_rfl
  i171 := by kernel_rfl
  i173 := by kernel_rfl
  i212 := by kernel_rfl
  i232 := by kernel_rfl
  i233 := by kernel_rfl
  m17 := by kernel_rfl
  m18 := by kernel_rfl
  m19 := by kernel_rfl }
open Go.RowKit Go.Sort Go.Lib in
/-- strconv.Itoa: "Itoa is equivalent to FormatInt(int64(i), 10).": i's DECIMAL NUMERAL ('Lib.itoa': a '-' where i is negative, then the digits), FOR EVERY int. The world behind the call: the world before it, new blocks behind the heap (the library's 'var a [24]byte'), draws. (LAID: no walk: one application.) -/
theorem Tryz.strconv_Itoa (n : Int) (h0 : -9223372036854775808 ≤ n) (h1 : n ≤ 9223372036854775807) (w : World) (htab : Lib.TabIs Tryz.prog w "internal/strconv.uint64pow10" .u64 Lib.pow10Tab) :
    Calls Tryz.prog 68 #[.int .i64 n] w fun e w' => e = .returned (.string ⟨(Lib.itoa n).toArray⟩) ∧ ∃ k os, w' = grow (w.drewN k) os := Any.strconv_Itoa Tryz.laysM171 n h0 h1 w htab
end Go.Proofs
/- Contracts: strings.Join over a slice that a call made; numbersText; done. -/
set_option linter.unusedVariables false
namespace Go.Proofs.YtgjllminidlolaaGreatDoor
open Go.RowKit

/-- strings.Join of an owned slice. -/
theorem join_any {base : Nat} {W : World} {v : Value} {xs : List ByteArray} (h : OwnE 1 encS 9 base W v xs) (sep : List UInt8) (hn : xs.length ≤ 1000000) (hl : (Lib.join (xs.map (·.data.toList)) sep).length ≤ 1000000000) :
    Calls Tryz.prog 38 #[v, .string (bs sep)] W (Only (.string (bs (Lib.join (xs.map (·.data.toList)) sep))) W) := by
  obtain ⟨A, c, rfl, hs, hc⟩ := h.slc encS_len rfl
  cases xs with
  | nil =>
    refine (Tryz.strings_Join_none A c (bs sep) W).mono ?_
    rintro e w' ⟨rfl, rfl⟩
    exact ⟨rfl, Below.refl _ _⟩
  | cons x ys =>
    obtain ⟨g, rfl, -, -, hg, -⟩ := h.form (by simp)
    have hj := Tryz.strings_Join g 0 c (x :: ys) (bs sep) W (fun j y hy => by
      have := h.cell encS_len hy (i := 0) (u := .string y) rfl
      rw [Nat.mul_one, Nat.add_zero] at this
      rw [Nat.zero_add]
      exact this) hg (by omega) hc (by rw [bs_data]; omega)
    refine hj.mono ?_
    rintro e w' ⟨rfl, hb⟩
    exact ⟨rfl, hb⟩

/-- A number's text. -/
def ItoaOk (w : World) (x : Int) : Prop := ∀ W, Below w.heap.size w W → Calls Tryz.prog 68 #[.int .i64 x] W (Only (.string (bs (Lib.decDigits x.toNat))) W)
theorem itoa_small {x : Int} (h0 : 0 ≤ x) (h1 : x < 100) (w : World) : ItoaOk w x := fun W _ => by
  obtain ⟨n, rfl⟩ : ∃ n : Nat, x = n := ⟨x.toNat, by omega⟩
  refine (Tryz.strconv_Itoa_small n (by omega) W).mono ?_
  rintro e w' ⟨rfl, rfl⟩
  exact ⟨rfl, Below.refl _ _⟩
theorem itoa_env {x : Int} (h0 : 0 ≤ x) (h1 : x ≤ 1000000000) {w : World} (hE : Env w) : ItoaOk w x := fun W hW => by
  obtain ⟨n, rfl⟩ : ∃ n : Nat, x = n := ⟨x.toNat, by omega⟩
  refine (Tryz.strconv_Itoa n (by omega) (by omega) W (hE.later hW).2.2).mono ?_
  rintro e w' ⟨rfl, k, os, rfl⟩
  refine ⟨by rw [Lib.itoa_nonneg, Int.toNat_natCast]; rfl, rfl, rfl, rfl, ?_, fun j hj => ?_⟩
  · show W.heap.size ≤ (W.heap ++ os).size
    rw [Array.size_append]
    omega
  · show (W.heap ++ os)[j]? = W.heap[j]?
    exact Array.getElem?_append_left hj
def decs (xs : List Int) : List ByteArray := xs.map fun x => bs (Lib.decDigits x.toNat)
theorem decs_data (xs : List Int) : (decs xs).map (·.data.toList) = xs.map fun n => Lib.decDigits n.toNat := by
  rw [decs, List.map_map]
  rfl
theorem decs_take {xs : List Int} {j : Nat} {x : Int} (h : xs[j]? = some x) : decs (xs.take (j + 1)) = decs (xs.take j) ++ [bs (Lib.decDigits x.toNat)] := by
  rw [take_next h, decs, List.map_append]
  rfl

set_option maxRecDepth 20000 in
set_option maxHeartbeats 1600000 in
theorem numbersText_any (A : Option Addr) (len c : Nat) (xs : List Int) (w : World) (h : SlE 1 encI w A len xs) (hn : len ≤ 1000) (hI : ∀ x ∈ xs, ItoaOk w x) (hl : (spacedL xs).length ≤ 1000000000) :
    Calls Tryz.prog 180 #[.slice A len c] w (Only (.string (bs (spacedL xs))) w) := by
  have H := Lib.hid h
  have HL := Lib.hid h.len
  have HI := Lib.hid hI
  have HLL := Lib.hid hl
  clear h hI hl
  go_enter Tryz.func180, Tryz.ntmps180
  go_wp2_with fail
  go_loopw [3, 9, 5] (fun s i _ wr => ∃ k : Nat, k ≤ len ∧ i = .int .i64 k ∧ OwnE 1 encS 9 w.heap.size wr s (decs (xs.take k)) ∧ Below w.heap.size w wr) (fun _ i _ _ => len - (intOf i).toNat)
  case atStart => exact ⟨0, by omega, rfl, own_new w _ _ (Nat.le_refl _) encS_len [] #[] rfl (by simp) rfl, below_alloc (Below.refl _ _) _⟩
  case round =>
    obtain ⟨k, hk, rfl, hown, hbr⟩ := hrel
    have HO := Lib.hid hown
    have HR := Lib.hid hbr
    clear hown hbr
    have hsz := HR.out.size
    by_cases hkl : k < len
    rotate_left
    · obtain rfl : k = len := by omega
      have e : xs.take k = xs := List.take_of_length_le (by rw [HL.out]; omega)
      rw [e] at HO
      have HJ := Lib.hid (join_any HO.out [32] (by simp [decs]; rw [HL.out]; omega) (by rw [decs_data]; exact HLL.out))
      go_wp2_with fail
      refine HJ.out.mono ?_
      rintro e w2 ⟨rfl, hb⟩
      have HB := Lib.hid (HR.out.trans (hb.mono hsz))
      clear hb
      go_wp2_with fail
      go_ret
      exact ⟨by rw [decs_data]; rfl, HB.out⟩
    · obtain ⟨b, off, x, rfl, hbl, hx, hd, g0⟩ := at1 H.out HR.out hkl
      have HX := Lib.hid hx
      have HIX := Lib.hid (HI.out x (List.mem_of_getElem? hx) wr HR.out)
      have HK := Lib.hid hk
      have HDL := Lib.hid (show (decs (xs.take k)).length = k by rw [decs, List.length_map, List.length_take, HL.out]; omega)
      have HN := Lib.hid (decs_take hx)
      clear hx hd
      generalize decs (xs.take k) = rs at *
      generalize bs (Lib.decDigits x.toNat) = tx at *
      go_wp2_with fail
      refine HIX.out.mono ?_
      rintro e w2 ⟨rfl, hb⟩
      have HO2 := Lib.hid (HO.out.below hb (Nat.le_refl _))
      have HB2 := Lib.hid (HR.out.trans (hb.mono hsz))
      have hsz2 := HB2.out.size
      clear hb HO HIX
      go_wp2_with (at_builtin; refine wpList_push 1 16 9 encS encS_len encS_one (by omega) tx _ _ rfl rfl _ _ _ rfl Tryz.underlying60 info_str rfl w.heap.size _ _ rfl rfl rfl HO2.out (by rw [HDL.out]; omega) (by rw [HDL.out]; unfold maxLen; omega) hsz2 ?_; intro v' w' hown' hg'; have HO' := Lib.hid hown'; have HB' := Lib.hid (below_grown HB2.out hg' HO2.out (Nat.le_refl _)); clear hown' hg')
      go_roundw
      case rel => exact ⟨k + 1, by omega, by go_num, by rw [HN.out]; exact HO'.out, HB'.out⟩
      case measure => simp [intOf]; omega

/-- A result of lines and whether it went. -/
def RetL (out : List ByteArray) (ok : Bool) (w : World) (e : Ending) (w' : World) : Prop :=
  ∃ v, e = .returned (.tuple #[v, .bool ok]) ∧ OwnE 1 encS 9 w.heap.size w' v out ∧ Below w.heap.size w w'
set_option maxRecDepth 20000 in
theorem done_any (ok : Bool) (w : World) :
    Calls Tryz.prog 177 #[.bool ok] w (RetL [bs okL] ok w) := by
  go_enter Tryz.func177, Tryz.ntmps177
  go_wp2_with fail
  go_ret2
  exact ⟨_, rfl, own_new w _ _ (Nat.le_refl _) encS_len [bs okL] _ rfl (by unfold maxLen; simp) rfl, below_alloc (Below.refl _ _) _⟩
end Go.Proofs.YtgjllminidlolaaGreatDoor
/- Contracts: parse. -/
set_option linter.unusedVariables false
namespace Go.Proofs.YtgjllminidlolaaGreatDoor
open Go.RowKit

/-- An element of a slice of strings, in a later world. -/
theorem atS {w wr : World} {A : Option Addr} {n : Nat} {xs : List ByteArray} (h : SlE 1 encS w A n xs) (hb : Below w.heap.size w wr) {j : Nat} (hj : j < n) :
    ∃ b off x, A = some ⟨b, off, none⟩ ∧ b < wr.heap.size ∧ xs[j]? = some x ∧ xs.drop j = x :: xs.drop (j + 1) ∧ wr.cell? ⟨b, off + j, none⟩ = some (.string x) := by
  obtain ⟨b, off, x, hA, hlt, hx, hd, hc⟩ := (h.below hb).at_ hj
  exact ⟨b, off, x, hA, hlt, hx, hd, by have := hc 0 _ rfl; simpa using this⟩
/-- strings.Split at one byte. -/
theorem split_any (c : UInt8) (s : ByteArray) (W : World) (hm : ∃ m, W.cell? ⟨0, 0, none⟩ = some (.int .i64 m)) (hs : s.size ≤ 1000) :
    Calls Tryz.prog 35 #[.string s, .string (bs [c])] W (fun e w' => ∃ g n, n = (cutL c s.data.toList).length ∧ e = .returned (.slice (some ⟨g, 0, none⟩) n n) ∧ SlE 1 encS w' (some ⟨g, 0, none⟩) n ((cutL c s.data.toList).map bs) ∧
      Below W.heap.size W w' ∧ W.heap.size ≤ g ∧ g < w'.heap.size ∧ n ≤ 1001) := by
  obtain ⟨m, hm⟩ := hm
  refine (Tryz.strings_Split s (bs [c]) m W (by omega) hm (by rw [bs_size]; simp)).mono ?_
  rintro e w' ⟨rfl, rfl⟩
  have h2 := Lib.countB_le (bs [c]) (by rw [bs_size]; simp) s.size s (Nat.le_refl _)
  have h3 := countB_cut c s
  rw [splitB_cut, countB_cut]
  refine ⟨W.heap.size, _, rfl, rfl, slE_new W _ encS_len _ _ (by rw [flat_encS]) ?_ (by rw [List.length_map]) rfl, below_alloc (Below.refl _ _) _, Nat.le_refl _, by show _ < (W.heap.push _).size; rw [Array.size_push]; omega, by omega⟩
  rw [List.length_map]
  unfold maxLen
  omega
/-- Whether a command takes so many words. -/
def Fits (n : Int) (m : Nat) : Prop := (m : Int) = n ∨ (n < 0 ∧ 0 < m ∧ m % 3 = 0)
/-- A line is no known one. -/
def ParseNo (m : Nat) (w : World) (e : Ending) (w' : World) : Prop :=
  e = .panicked [{ v := .iface 109 (.agg #[.int .i64 m]), recovered := false }] ∧ Below w.heap.size w w'

set_option maxRecDepth 20000 in
set_option maxHeartbeats 3200000 in
theorem parse_none (s : ByteArray) (wd : List UInt8) (ws : List (List UInt8)) (w : World) (hm : Env w) (hs : s.size ≤ 1000) (hc : cutL 32 s.data.toList = wd :: ws) (hn : cmdOf (bs wd) = none) :
    Calls Tryz.prog 67 #[.string s] w (ParseNo (ws.length + 1) w) := by
  have HM := Lib.hid hm
  have HN := Lib.hid hn
  have HC := Lib.hid hc
  have HB0 := Lib.hid (below_alloc (Below.refl w.heap.size w) (.cells #[.int .i64 0, .nilFunc] 113))
  clear hm hn hc
  go_enter Tryz.func67, Tryz.ntmps67
  go_wp2_with fail
  refine (split_any 32 s _ (HM.out.below HB0.out HM.out.1) hs).mono ?_
  rintro e w2 ⟨g, n, hn, rfl, hsl, hb2, -, hg, hn1⟩
  rw [HC.out] at hn hsl
  obtain ⟨b, off, x, hA, hbl, hx, -, g0⟩ := atS hsl (Below.refl _ _) (show 0 < n by rw [hn]; simp)
  injection hA with hA
  injection hA with hA1 hA2
  subst hA1 hA2
  simp only [List.map_cons, List.getElem?_cons_zero, Option.some.injEq] at hx
  subst hx
  rw [Nat.add_zero] at g0
  have hn0 : 0 < n := by rw [hn]; simp
  have HB2 := Lib.hid (below_trans HB0.out hb2)
  have HNN := Lib.hid (show n = ws.length + 1 by rw [hn]; simp)
  clear hb2 hsl hn hbl HB0
  go_wp2_with fail
  refine (commandOf_any (bs wd) w2).mono ?_
  rintro e w3 ⟨hb3, he⟩
  rw [HN.out] at he
  subst he
  have HB3 := Lib.hid (below_trans HB2.out hb3)
  clear hb3 HB2
  have HB4 := fun o => Lib.hid (below_alloc HB3.out o)
  clear HB3
  obtain ⟨m, rfl⟩ : ∃ m : Nat, n = m + 1 := ⟨n - 1, by omega⟩
  have e1 : ((m + 1 : Nat) : Int) - 1 = (m : Int) := by omega
  by_cases h0 : m = 0
  · subst h0
    go_wp2_with fail
    refine ⟨rfl, ?_, (HB4 _).out⟩
    have hh := HNN.out
    rw [show ((ws.length + 1 : Nat) : Int) = 1 by omega]
  · have i0 : ¬ (m : Int) = 0 := by omega
    go_wp2_with fail
    refine ⟨rfl, ?_, (HB4 _).out⟩
    have hh := HNN.out
    rw [show ((ws.length + 1 : Nat) : Int) = (m : Int) + 1 by omega]
set_option maxRecDepth 20000 in
set_option maxHeartbeats 3200000 in
theorem parse_unfit (s : ByteArray) (wd : List UInt8) (ws : List (List UInt8)) (nw : Int) (k : Nat) (w : World) (hm : Env w) (hs : s.size ≤ 1000) (hc : cutL 32 s.data.toList = wd :: ws) (hn : cmdOf (bs wd) = some (nw, k)) (hf : ¬ Fits nw ws.length) :
    Calls Tryz.prog 67 #[.string s] w (ParseNo (ws.length + 1) w) := by
  have HM := Lib.hid hm
  have HN := Lib.hid hn
  have HC := Lib.hid hc
  have HB0 := Lib.hid (below_alloc (Below.refl w.heap.size w) (.cells #[.int .i64 0, .nilFunc] 113))
  obtain ⟨f1, f2⟩ := not_or.1 hf
  have HF2 := Lib.hid f2
  clear hm hn hc hf f2
  go_enter Tryz.func67, Tryz.ntmps67
  go_wp2_with fail
  refine (split_any 32 s _ (HM.out.below HB0.out HM.out.1) hs).mono ?_
  rintro e w2 ⟨g, n, hn, rfl, hsl, hb2, -, hg, hn1⟩
  rw [HC.out] at hn hsl
  obtain ⟨b, off, x, hA, hbl, hx, -, g0⟩ := atS hsl (Below.refl _ _) (show 0 < n by rw [hn]; simp)
  injection hA with hA
  injection hA with hA1 hA2
  subst hA1 hA2
  simp only [List.map_cons, List.getElem?_cons_zero, Option.some.injEq] at hx
  subst hx
  rw [Nat.add_zero] at g0
  obtain ⟨m, rfl⟩ : ∃ m : Nat, n = m + 1 := ⟨n - 1, by rw [hn]; simp⟩
  obtain rfl : m = ws.length := by simpa using hn
  generalize ws.length = m at *
  have HB2 := Lib.hid (below_trans HB0.out hb2)
  clear hb2 hsl hn hbl HB0
  go_wp2_with fail
  refine (commandOf_any (bs wd) w2).mono ?_
  rintro e w3 ⟨hb3, he⟩
  rw [HN.out] at he
  subst he
  have HB3 := Lib.hid (below_trans HB2.out hb3)
  clear hb3 HB2
  have HB4 := fun o => Lib.hid (below_alloc HB3.out o)
  clear HB3
  have e1 : ((m + 1 : Nat) : Int) - 1 = (m : Int) := by omega
  have fm : ((m : Int) == nw) = false := by simp [f1]
  by_cases hneg : nw < 0
  rotate_left
  · unfold cmdV
    go_wp2_with fail
    exact ⟨rfl, rfl, (HB4 _).out⟩
  by_cases hm0 : (0 : Int) < (m : Int)
  rotate_left
  · unfold cmdV
    go_wp2_with fail
    exact ⟨rfl, rfl, (HB4 _).out⟩
  have f3 : ((m : Int) % 3 == 0) = false := by
    have : ¬ (m : Int) % 3 = 0 := fun h => HF2.out ⟨hneg, by omega, by omega⟩
    simp only [beq_eq_false_iff_ne]
    exact this
  unfold cmdV
  go_wp2_with fail
  exact ⟨rfl, rfl, (HB4 _).out⟩
end Go.Proofs.YtgjllminidlolaaGreatDoor
