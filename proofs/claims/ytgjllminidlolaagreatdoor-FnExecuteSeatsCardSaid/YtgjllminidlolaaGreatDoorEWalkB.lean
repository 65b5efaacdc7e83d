/- Contracts: the command of a word. -/
import Derived.Test.YtgjllminidlolaaGreatDoorEWalkA
import Derived.Test.YtgjllminidlolaaGreatDoorEMap
import Derived.Deep.Cut
import Derived.Laws.EntriesVeiled
import Derived.WideLaws
import Derived.Laws.ResultCell
set_option linter.unusedVariables false
namespace Go.Proofs.YtgjllminidlolaaGreatDoor
open Go.RowKit Go.MapKept

/-- The commands: a word, a number of words, a function. -/
def cmdTab : List (ByteArray × Int × Nat) := [
  (⟨#[114, 111, 97, 100]⟩, 3, 136),
  (⟨#[99, 108, 111, 115, 101]⟩, 2, 137),
  (⟨#[102, 97, 114]⟩, 2, 138),
  (⟨#[119, 97, 121]⟩, 2, 139),
  (⟨#[99, 111, 97, 99, 104]⟩, (-1), 140),
  (⟨#[99, 111, 97, 99, 104, 101, 115]⟩, 0, 141),
  (⟨#[112, 111, 115, 116]⟩, 4, 142),
  (⟨#[114, 105, 100, 101]⟩, 4, 143),
  (⟨#[105, 110, 115, 105, 100, 101]⟩, 2, 144),
  (⟨#[111, 117, 116, 115, 105, 100, 101]⟩, 2, 145),
  (⟨#[115, 101, 97, 116, 115]⟩, 0, 146)]
def cmdV (n : Int) (k : Nat) : Value := .agg #[.int .i64 n, .func (.func k) #[] #[]]
def cmdE (i : Nat) : List (ByteArray × Int × Nat) → List MapEntry
  | [] => []
  | (s, n, k) :: l => { key := .string s, val := cmdV n k, born := i } :: cmdE (i + 1) l
/-- The command of a word. -/
def cmdIn (s : ByteArray) : List (ByteArray × Int × Nat) → Option (Int × Nat)
  | [] => none
  | (t, n, k) :: l => if s = t then some (n, k) else cmdIn s l
def cmdOf (s : ByteArray) : Option (Int × Nat) := cmdIn s cmdTab
theorem cmd_find (s : ByteArray) : ∀ (l : List (ByteArray × Int × Nat)) (b i : Nat),
    match cmdIn s l with
    | some (n, k) => ∃ j, Instr.findNow .string (.string s) (cmdE b l) i = some (some (j, cmdV n k))
    | none => Instr.findNow .string (.string s) (cmdE b l) i = some none
  | [], b, i => by simp [cmdIn, cmdE, Instr.findNow]
  | (t, n, k) :: l, b, i => by
    by_cases h : s = t
    · subst h
      simp only [cmdIn, if_pos, cmdE]
      exact ⟨i, findNow_cons_hit s _ b _ i⟩
    · simp only [cmdIn, if_neg h, cmdE]
      rw [findNow_cons_miss s t _ b _ i h]
      exact cmd_find s l (b + 1) (i + 1)
def cmdCell : Obj := .cells #[.int .i64 0, .nilFunc] 113
/-- The world behind so many insertions. -/
def tabW (w : World) (i : Nat) : World := (w.alloc cmdCell).alloc (.map (cmdE 0 (cmdTab.take i)).toArray i)
theorem cmdE_app (l : List (ByteArray × Int × Nat)) : ∀ (b : Nat) (s : ByteArray) (n : Int) (k : Nat), cmdE b (l ++ [(s, n, k)]) = cmdE b l ++ [{ key := .string s, val := cmdV n k, born := b + l.length }] := by
  induction l with
  | nil => intro b s n k; simp [cmdE]
  | cons x l ih =>
    intro b s n k
    obtain ⟨t, m, j⟩ := x
    simp only [List.cons_append, cmdE, ih, List.length_cons]
    rw [show b + 1 + l.length = b + (l.length + 1) by omega]
theorem cmdE_keys (l : List (ByteArray × Int × Nat)) : ∀ (b : Nat), ∀ x ∈ cmdE b l, ∃ s, x.key = .string s ∧ s ∈ l.map (·.1) := by
  induction l with
  | nil => intro b x hx; simp [cmdE] at hx
  | cons y l ih =>
    intro b x hx
    obtain ⟨t, m, j⟩ := y
    simp only [cmdE, List.mem_cons] at hx
    rcases hx with rfl | hx
    · exact ⟨t, rfl, by simp⟩
    · obtain ⟨s, h1, h2⟩ := ih _ x hx
      exact ⟨s, h1, by simp [h2]⟩
theorem tab_size (w : World) (i : Nat) : (tabW w i).heap.size = w.heap.size + 2 := by
  show ((w.heap.push _).push _).size = _
  rw [Array.size_push, Array.size_push]
theorem tab_step (w : World) (i j : Nat) (hj : j = i + 1) (s : ByteArray) (n : Int) (k : Nat) (h : cmdTab[i]? = some (s, n, k)) (hn : ∀ t ∈ (cmdTab.take i).map (·.1), ¬ t.data.toList = s.data.toList) :
    (Instr.mapUpdate 200 (.map (some (w.heap.size + 1))) (.string s) (.agg #[.int .i64 n, .func (.func k) #[] #[]])).run Tryz.prog (tabW w i) = .ok () (tabW w j) := by
  subst hj
  have hi : i < cmdTab.length := (List.getElem?_eq_some_iff.1 h).1
  have e := run_update_new (P := Tryz.prog) Tryz.underlying200 Tryz.underlying9 (w.alloc cmdCell) (cmdE 0 (cmdTab.take i)).toArray i s (cmdV n k)
    (fun x hx => by obtain ⟨t, h1, -⟩ := cmdE_keys _ _ x hx; rw [h1]; trivial)
    (fun x hx he => by obtain ⟨t, h1, h2⟩ := cmdE_keys _ _ x hx; rw [h1] at he; injection he with he; subst he; exact hn _ h2 rfl)
  have hs : (w.alloc cmdCell).heap.size = w.heap.size + 1 := by
    show (w.heap.push _).size = _
    rw [Array.size_push]
  rw [hs] at e
  rw [tabW]
  refine Eq.trans e ?_
  rw [tabW, List.take_add_one, h]
  simp only [Option.toList, cmdE_app, List.length_take, Nat.zero_add, Nat.min_eq_left (Nat.le_of_lt hi), List.push_toArray]
/-- The command of a word is returned. -/
def CmdRet (s : ByteArray) (w : World) (e : Ending) (w' : World) : Prop := Below w.heap.size w w' ∧
  match cmdOf s with
  | some (n, k) => e = .returned (.tuple #[cmdV n k, .bool true])
  | none => e = .returned (.tuple #[.agg #[.int .i64 0, .nilFunc], .bool false])
set_option maxRecDepth 20000 in
set_option maxHeartbeats 1600000 in
theorem commandOf_any (s : ByteArray) (w : World) :
    Calls Tryz.prog 103 #[.string s] w (CmdRet s w) := by
  have hmk : (Instr.makeMap 200 none).run Tryz.prog (w.alloc (.cells #[.int .i64 0, .nilFunc] 113)) = .ok (.map (some (w.heap.size + 1))) (tabW w 0) := by
    have e : (Instr.makeMap 200 none).run Tryz.prog (w.alloc cmdCell) = .ok (.map (some (w.alloc cmdCell).heap.size)) ((w.alloc cmdCell).alloc (.map #[] 0)) := rfl
    have hs : (w.alloc cmdCell).heap.size = w.heap.size + 1 := by
      show (w.heap.push _).size = _
      rw [Array.size_push]
    rw [hs] at e
    exact e
  have h0 := tab_step w 0 1 rfl _ _ _ rfl (by decide)
  have h1 := tab_step w 1 2 rfl _ _ _ rfl (by decide)
  have h2 := tab_step w 2 3 rfl _ _ _ rfl (by decide)
  have h3 := tab_step w 3 4 rfl _ _ _ rfl (by decide)
  have h4 := tab_step w 4 5 rfl _ _ _ rfl (by decide)
  have h5 := tab_step w 5 6 rfl _ _ _ rfl (by decide)
  have h6 := tab_step w 6 7 rfl _ _ _ rfl (by decide)
  have h7 := tab_step w 7 8 rfl _ _ _ rfl (by decide)
  have h8 := tab_step w 8 9 rfl _ _ _ rfl (by decide)
  have h9 := tab_step w 9 10 rfl _ _ _ rfl (by decide)
  have h10 := tab_step w 10 11 rfl _ _ _ rfl (by decide)
  have hW : tabW w 11 = (w.alloc (.cells #[.int .i64 0, .nilFunc] 113)).alloc (.map (cmdE 0 cmdTab).toArray 11) := rfl
  have hcell : ((w.alloc (.cells #[.int .i64 0, .nilFunc] 113)).alloc (.map (cmdE 0 cmdTab).toArray 11)).heap[w.heap.size + 1]? = some (.map (cmdE 0 cmdTab).toArray 11) := by
    have e := (heap_alloc (w.alloc (.cells #[.int .i64 0, .nilFunc] 113)) (.map (cmdE 0 cmdTab).toArray 11)).1
    have hs : (w.alloc (.cells #[.int .i64 0, .nilFunc] 113)).heap.size = w.heap.size + 1 := by
      show (w.heap.push _).size = _
      rw [Array.size_push]
    rw [hs] at e
    exact e
  have hL : (∃ n k, cmdOf s = some (n, k) ∧ (Instr.lookup 200 (.map (some (w.heap.size + 1))) (.string s) true).run Tryz.prog ((w.alloc (.cells #[.int .i64 0, .nilFunc] 113)).alloc (.map (cmdE 0 cmdTab).toArray 11)) = .ok (.tuple #[.agg #[.int .i64 n, .func (.func k) #[] #[]], .bool true]) ((w.alloc (.cells #[.int .i64 0, .nilFunc] 113)).alloc (.map (cmdE 0 cmdTab).toArray 11))) ∨
      (cmdOf s = none ∧ (Instr.lookup 200 (.map (some (w.heap.size + 1))) (.string s) true).run Tryz.prog ((w.alloc (.cells #[.int .i64 0, .nilFunc] 113)).alloc (.map (cmdE 0 cmdTab).toArray 11)) = .ok (.tuple #[.agg #[.int .i64 0, .nilFunc], .bool false]) ((w.alloc (.cells #[.int .i64 0, .nilFunc] 113)).alloc (.map (cmdE 0 cmdTab).toArray 11))) := by
    have hf := cmd_find s cmdTab 0 0
    unfold cmdOf
    cases hc : cmdIn s cmdTab with
    | none =>
      rw [hc] at hf
      exact .inr ⟨rfl, run_look_miss Tryz.underlying200 Tryz.underlying9 _ _ _ _ hcell s _ hf (Tryz.zeroValue113 _)⟩
    | some x =>
      obtain ⟨n, k⟩ := x
      rw [hc] at hf
      obtain ⟨j, hf⟩ := hf
      exact .inl ⟨n, k, rfl, run_look_hit Tryz.underlying200 Tryz.underlying9 _ _ _ _ hcell s _ _ hf⟩
  generalize (cmdE 0 cmdTab).toArray = ES at *
  have HL := Lib.hid hL
  have HW := Lib.hid hW
  clear hL hW hcell
  generalize hT : tabW w = T at *
  clear hT
  go_enter Tryz.func103, Tryz.ntmps103
  go_upto_region 2 with (fail)
  clear hmk h0 h1 h2 h3 h4 h5 h6 h7 h8 h9 h10
  rw [HW.out]
  clear HW
  have hB := fun (o1 o2 o3 : Obj) => Lib.hid ((((Below.refl w.heap.size w).alloc (Nat.le_refl _) o1).alloc (by show _ ≤ (w.heap.push _).size; rw [Array.size_push]; omega) o2).alloc (by show _ ≤ ((w.heap.push _).push _).size; rw [Array.size_push, Array.size_push]; omega) o3)
  rcases HL.out with ⟨n, k, hc, hl⟩ | ⟨hc, hl⟩
  · have HC := Lib.hid hc
    clear hc HL
    go_wp2_with fail
    refine bodyPost_ret (v := .tuple #[.agg #[.int .i64 n, .func (.func k) #[] #[]], .bool true]) (by rw [results_cell_tmp rfl]; go_simp) rfl ?_
    refine ⟨(hB _ _ _).out, ?_⟩
    rw [HC.out]
    rfl
  · have HC := Lib.hid hc
    clear hc HL
    go_wp2_with fail
    refine bodyPost_ret (v := .tuple #[.agg #[.int .i64 0, .nilFunc], .bool false]) (by rw [results_cell_tmp rfl]; go_simp) rfl ?_
    refine ⟨(hB _ _ _).out, ?_⟩
    rw [HC.out]
end Go.Proofs.YtgjllminidlolaaGreatDoor
