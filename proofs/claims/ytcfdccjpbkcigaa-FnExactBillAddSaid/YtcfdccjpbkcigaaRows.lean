/-
  No cell of these rows narrows 'for every input' (looked for: loops, veiled, ifaces, maps, wideKeys, modest, calm, conditions, laid).
  DERIVED. THE GIVEN ROWS OF THIS SEAT. 12 by the template 'for every input the law returns true; each argument reads behind the call as it read before'; 0 by the template 'total and deterministic' (their statements: YtcfdccjpbkcigaaTotals.lean).
  GIVEN WITH THE SEED: the statements are not yours to turn. If you find one false, say at which input.
  Laid BY PROGRAM, IN A SANDBOX (cutbox-rows.mjs): the forced cells as the released guide's own fill.sh prints them over the translation 73c3b8dfa6e41017… (all of the seat's roots in one cut). By AI agents, Wed Nov 11 2026. No macro, syntax, notation, axiom, sorry.
-/
import Derived.Test.YtcfdccjpbkcigaaChecked
import GoSem.Claim
import GoSem.ClaimJoined
import GoSem.ClaimMapViews
import Derived.JoinedTies
import Derived.KernelRfl
namespace Go.Proofs.Ytcfdccjpbkcigaa
/- THE CELL 'sum', in the pinned program and in every row, IS THE sha256 OF THE DUMP (.gsa) THAT YtcfdccjpbkcigaaProg.lean LOADS. Nothing in Lean hashes anything: it is a label: what it is worth is what the hold of that sum in a sandbox is worth. -/
noncomputable def Try.pinned : Pinned := { name := "ytcfdccjpbkcigaa", sum := "73c3b8dfa6e4101761fafcc80e029ffd92a3a38a832c3196c7b04a90e78a50aa", checked := Try.checked }
namespace Rows
def none {H : Type} : Left H := { results := [], args := [] }

/-- 'laws.FnExactBillValid': WHATEVER THE INPUT: true; the input reads as it did. -/
def fnExactBillValidSpec : ChangeSpec := { name := "fnExactBillValid", fn := fun _ => fun
  | [d1, d2] => { results := [.lit (.bool true)], args := [d1, d2] }
  | _ => none }
def fnExactBillValidRow : OpenClaim := { program := "ytcfdccjpbkcigaa", sum := "73c3b8dfa6e4101761fafcc80e029ffd92a3a38a832c3196c7b04a90e78a50aa", func := "loop.example/mailcoaches/laws.FnExactBillValid", spec := "fnExactBillValid", apart := false }
def FnExactBillValidSaid : Prop := fnExactBillValidRow.holds Try.pinned (OpenSpec.ofChange fnExactBillValidSpec)

/-- ITS FALSE NEIGHBOUR: 'it returns false'. Refute it at one input. -/
def fnExactBillValidWrong : ChangeSpec := { name := "fnExactBillValid", fn := fun _ => fun
  | [d1, d2] => { results := [.lit (.bool false)], args := [d1, d2] }
  | _ => none }
def FnExactBillValidWrongFalsely : Prop := fnExactBillValidRow.holds Try.pinned (OpenSpec.ofChange fnExactBillValidWrong)

/-- 'laws.FnExactBillPound': WHATEVER THE INPUT: true; the input reads as it did. -/
def fnExactBillPoundSpec : ChangeSpec := { name := "fnExactBillPound", fn := fun _ => fun
  | [d1, d2] => { results := [.lit (.bool true)], args := [d1, d2] }
  | _ => none }
def fnExactBillPoundRow : OpenClaim := { program := "ytcfdccjpbkcigaa", sum := "73c3b8dfa6e4101761fafcc80e029ffd92a3a38a832c3196c7b04a90e78a50aa", func := "loop.example/mailcoaches/laws.FnExactBillPound", spec := "fnExactBillPound", apart := false }
def FnExactBillPoundSaid : Prop := fnExactBillPoundRow.holds Try.pinned (OpenSpec.ofChange fnExactBillPoundSpec)

/-- ITS FALSE NEIGHBOUR: 'it returns false'. Refute it at one input. -/
def fnExactBillPoundWrong : ChangeSpec := { name := "fnExactBillPound", fn := fun _ => fun
  | [d1, d2] => { results := [.lit (.bool false)], args := [d1, d2] }
  | _ => none }
def FnExactBillPoundWrongFalsely : Prop := fnExactBillPoundRow.holds Try.pinned (OpenSpec.ofChange fnExactBillPoundWrong)

/-- 'laws.FnExactBillRoom': WHATEVER THE INPUT: true; the input reads as it did. -/
def fnExactBillRoomSpec : ChangeSpec := { name := "fnExactBillRoom", fn := fun _ => fun
  | [d1, d2, d3, d4] => { results := [.lit (.bool true)], args := [d1, d2, d3, d4] }
  | _ => none }
def fnExactBillRoomRow : OpenClaim := { program := "ytcfdccjpbkcigaa", sum := "73c3b8dfa6e4101761fafcc80e029ffd92a3a38a832c3196c7b04a90e78a50aa", func := "loop.example/mailcoaches/laws.FnExactBillRoom", spec := "fnExactBillRoom", apart := false }
def FnExactBillRoomSaid : Prop := fnExactBillRoomRow.holds Try.pinned (OpenSpec.ofChange fnExactBillRoomSpec)

/-- ITS FALSE NEIGHBOUR: 'it returns false'. Refute it at one input. -/
def fnExactBillRoomWrong : ChangeSpec := { name := "fnExactBillRoom", fn := fun _ => fun
  | [d1, d2, d3, d4] => { results := [.lit (.bool false)], args := [d1, d2, d3, d4] }
  | _ => none }
def FnExactBillRoomWrongFalsely : Prop := fnExactBillRoomRow.holds Try.pinned (OpenSpec.ofChange fnExactBillRoomWrong)

/-- 'laws.FnExactBillTurn': WHATEVER THE INPUT: true; the input reads as it did. -/
def fnExactBillTurnSpec : ChangeSpec := { name := "fnExactBillTurn", fn := fun _ => fun
  | [d1, d2] => { results := [.lit (.bool true)], args := [d1, d2] }
  | _ => none }
def fnExactBillTurnRow : OpenClaim := { program := "ytcfdccjpbkcigaa", sum := "73c3b8dfa6e4101761fafcc80e029ffd92a3a38a832c3196c7b04a90e78a50aa", func := "loop.example/mailcoaches/laws.FnExactBillTurn", spec := "fnExactBillTurn", apart := false }
def FnExactBillTurnSaid : Prop := fnExactBillTurnRow.holds Try.pinned (OpenSpec.ofChange fnExactBillTurnSpec)

/-- ITS FALSE NEIGHBOUR: 'it returns false'. Refute it at one input. -/
def fnExactBillTurnWrong : ChangeSpec := { name := "fnExactBillTurn", fn := fun _ => fun
  | [d1, d2] => { results := [.lit (.bool false)], args := [d1, d2] }
  | _ => none }
def FnExactBillTurnWrongFalsely : Prop := fnExactBillTurnRow.holds Try.pinned (OpenSpec.ofChange fnExactBillTurnWrong)

/-- 'laws.FnExactBillLoads': WHATEVER THE INPUT: true; the input reads as it did. -/
def fnExactBillLoadsSpec : ChangeSpec := { name := "fnExactBillLoads", fn := fun _ => fun
  | [d1, d2] => { results := [.lit (.bool true)], args := [d1, d2] }
  | _ => none }
def fnExactBillLoadsRow : OpenClaim := { program := "ytcfdccjpbkcigaa", sum := "73c3b8dfa6e4101761fafcc80e029ffd92a3a38a832c3196c7b04a90e78a50aa", func := "loop.example/mailcoaches/laws.FnExactBillLoads", spec := "fnExactBillLoads", apart := false }
def FnExactBillLoadsSaid : Prop := fnExactBillLoadsRow.holds Try.pinned (OpenSpec.ofChange fnExactBillLoadsSpec)

/-- ITS FALSE NEIGHBOUR: 'it returns false'. Refute it at one input. -/
def fnExactBillLoadsWrong : ChangeSpec := { name := "fnExactBillLoads", fn := fun _ => fun
  | [d1, d2] => { results := [.lit (.bool false)], args := [d1, d2] }
  | _ => none }
def FnExactBillLoadsWrongFalsely : Prop := fnExactBillLoadsRow.holds Try.pinned (OpenSpec.ofChange fnExactBillLoadsWrong)

/-- 'laws.FnExactBillDrop': WHATEVER THE INPUT: true; the input reads as it did. -/
def fnExactBillDropSpec : ChangeSpec := { name := "fnExactBillDrop", fn := fun _ => fun
  | [d1, d2, d3] => { results := [.lit (.bool true)], args := [d1, d2, d3] }
  | _ => none }
def fnExactBillDropRow : OpenClaim := { program := "ytcfdccjpbkcigaa", sum := "73c3b8dfa6e4101761fafcc80e029ffd92a3a38a832c3196c7b04a90e78a50aa", func := "loop.example/mailcoaches/laws.FnExactBillDrop", spec := "fnExactBillDrop", apart := false }
def FnExactBillDropSaid : Prop := fnExactBillDropRow.holds Try.pinned (OpenSpec.ofChange fnExactBillDropSpec)

/-- ITS FALSE NEIGHBOUR: 'it returns false'. Refute it at one input. -/
def fnExactBillDropWrong : ChangeSpec := { name := "fnExactBillDrop", fn := fun _ => fun
  | [d1, d2, d3] => { results := [.lit (.bool false)], args := [d1, d2, d3] }
  | _ => none }
def FnExactBillDropWrongFalsely : Prop := fnExactBillDropRow.holds Try.pinned (OpenSpec.ofChange fnExactBillDropWrong)

/-- 'laws.FnExactBillAdd': WHATEVER THE INPUT: true; the input reads as it did. -/
def fnExactBillAddSpec : ChangeSpec := { name := "fnExactBillAdd", fn := fun _ => fun
  | [d1, d2, d3] => { results := [.lit (.bool true)], args := [d1, d2, d3] }
  | _ => none }
def fnExactBillAddRow : OpenClaim := { program := "ytcfdccjpbkcigaa", sum := "73c3b8dfa6e4101761fafcc80e029ffd92a3a38a832c3196c7b04a90e78a50aa", func := "loop.example/mailcoaches/laws.FnExactBillAdd", spec := "fnExactBillAdd", apart := false }
def FnExactBillAddSaid : Prop := fnExactBillAddRow.holds Try.pinned (OpenSpec.ofChange fnExactBillAddSpec)

/-- ITS FALSE NEIGHBOUR: 'it returns false'. Refute it at one input. -/
def fnExactBillAddWrong : ChangeSpec := { name := "fnExactBillAdd", fn := fun _ => fun
  | [d1, d2, d3] => { results := [.lit (.bool false)], args := [d1, d2, d3] }
  | _ => none }
def FnExactBillAddWrongFalsely : Prop := fnExactBillAddRow.holds Try.pinned (OpenSpec.ofChange fnExactBillAddWrong)

/-- 'laws.FnExactBillJoin': WHATEVER THE INPUT: true; the input reads as it did. -/
def fnExactBillJoinSpec : ChangeSpec := { name := "fnExactBillJoin", fn := fun _ => fun
  | [d1, d2, d3] => { results := [.lit (.bool true)], args := [d1, d2, d3] }
  | _ => none }
def fnExactBillJoinRow : OpenClaim := { program := "ytcfdccjpbkcigaa", sum := "73c3b8dfa6e4101761fafcc80e029ffd92a3a38a832c3196c7b04a90e78a50aa", func := "loop.example/mailcoaches/laws.FnExactBillJoin", spec := "fnExactBillJoin", apart := false }
def FnExactBillJoinSaid : Prop := fnExactBillJoinRow.holds Try.pinned (OpenSpec.ofChange fnExactBillJoinSpec)

/-- ITS FALSE NEIGHBOUR: 'it returns false'. Refute it at one input. -/
def fnExactBillJoinWrong : ChangeSpec := { name := "fnExactBillJoin", fn := fun _ => fun
  | [d1, d2, d3] => { results := [.lit (.bool false)], args := [d1, d2, d3] }
  | _ => none }
def FnExactBillJoinWrongFalsely : Prop := fnExactBillJoinRow.holds Try.pinned (OpenSpec.ofChange fnExactBillJoinWrong)

/-- 'laws.FnExactBillMoves': WHATEVER THE INPUT: true; the input reads as it did. -/
def fnExactBillMovesSpec : ChangeSpec := { name := "fnExactBillMoves", fn := fun _ => fun
  | [d1, d2] => { results := [.lit (.bool true)], args := [d1, d2] }
  | _ => none }
def fnExactBillMovesRow : OpenClaim := { program := "ytcfdccjpbkcigaa", sum := "73c3b8dfa6e4101761fafcc80e029ffd92a3a38a832c3196c7b04a90e78a50aa", func := "loop.example/mailcoaches/laws.FnExactBillMoves", spec := "fnExactBillMoves", unfollowed := true, recurses := true, apart := false }
def FnExactBillMovesSaid : Prop := fnExactBillMovesRow.holds Try.pinned (OpenSpec.ofChange fnExactBillMovesSpec)

/-- ITS FALSE NEIGHBOUR: 'it returns false'. Refute it at one input. -/
def fnExactBillMovesWrong : ChangeSpec := { name := "fnExactBillMoves", fn := fun _ => fun
  | [d1, d2] => { results := [.lit (.bool false)], args := [d1, d2] }
  | _ => none }
def FnExactBillMovesWrongFalsely : Prop := fnExactBillMovesRow.holds Try.pinned (OpenSpec.ofChange fnExactBillMovesWrong)

/-- 'laws.FnExactBillNested': WHATEVER THE INPUT: true; the input reads as it did. -/
def fnExactBillNestedSpec : ChangeSpec := { name := "fnExactBillNested", fn := fun _ => fun
  | [d1, d2] => { results := [.lit (.bool true)], args := [d1, d2] }
  | _ => none }
def fnExactBillNestedRow : OpenClaim := { program := "ytcfdccjpbkcigaa", sum := "73c3b8dfa6e4101761fafcc80e029ffd92a3a38a832c3196c7b04a90e78a50aa", func := "loop.example/mailcoaches/laws.FnExactBillNested", spec := "fnExactBillNested", unfollowed := true, recurses := true, apart := false }
def FnExactBillNestedSaid : Prop := fnExactBillNestedRow.holds Try.pinned (OpenSpec.ofChange fnExactBillNestedSpec)

/-- ITS FALSE NEIGHBOUR: 'it returns false'. Refute it at one input. -/
def fnExactBillNestedWrong : ChangeSpec := { name := "fnExactBillNested", fn := fun _ => fun
  | [d1, d2] => { results := [.lit (.bool false)], args := [d1, d2] }
  | _ => none }
def FnExactBillNestedWrongFalsely : Prop := fnExactBillNestedRow.holds Try.pinned (OpenSpec.ofChange fnExactBillNestedWrong)

/-- 'laws.FnExactBillStack': WHATEVER THE INPUT: true; the input reads as it did. -/
def fnExactBillStackSpec : ChangeSpec := { name := "fnExactBillStack", fn := fun _ => fun
  | [d1, d2, d3] => { results := [.lit (.bool true)], args := [d1, d2, d3] }
  | _ => none }
def fnExactBillStackRow : OpenClaim := { program := "ytcfdccjpbkcigaa", sum := "73c3b8dfa6e4101761fafcc80e029ffd92a3a38a832c3196c7b04a90e78a50aa", func := "loop.example/mailcoaches/laws.FnExactBillStack", spec := "fnExactBillStack", unfollowed := true, recurses := true, apart := false }
def FnExactBillStackSaid : Prop := fnExactBillStackRow.holds Try.pinned (OpenSpec.ofChange fnExactBillStackSpec)

/-- ITS FALSE NEIGHBOUR: 'it returns false'. Refute it at one input. -/
def fnExactBillStackWrong : ChangeSpec := { name := "fnExactBillStack", fn := fun _ => fun
  | [d1, d2, d3] => { results := [.lit (.bool false)], args := [d1, d2, d3] }
  | _ => none }
def FnExactBillStackWrongFalsely : Prop := fnExactBillStackRow.holds Try.pinned (OpenSpec.ofChange fnExactBillStackWrong)

/-- 'laws.FnExactBillOrder': WHATEVER THE INPUT: true; the input reads as it did. -/
def fnExactBillOrderSpec : ChangeSpec := { name := "fnExactBillOrder", fn := fun _ => fun
  | [d1, d2] => { results := [.lit (.bool true)], args := [d1, d2] }
  | _ => none }
def fnExactBillOrderRow : OpenClaim := { program := "ytcfdccjpbkcigaa", sum := "73c3b8dfa6e4101761fafcc80e029ffd92a3a38a832c3196c7b04a90e78a50aa", func := "loop.example/mailcoaches/laws.FnExactBillOrder", spec := "fnExactBillOrder", unfollowed := true, recurses := true, apart := false }
def FnExactBillOrderSaid : Prop := fnExactBillOrderRow.holds Try.pinned (OpenSpec.ofChange fnExactBillOrderSpec)

/-- ITS FALSE NEIGHBOUR: 'it returns false'. Refute it at one input. -/
def fnExactBillOrderWrong : ChangeSpec := { name := "fnExactBillOrder", fn := fun _ => fun
  | [d1, d2] => { results := [.lit (.bool false)], args := [d1, d2] }
  | _ => none }
def FnExactBillOrderWrongFalsely : Prop := fnExactBillOrderRow.holds Try.pinned (OpenSpec.ofChange fnExactBillOrderWrong)

/- THE SECOND FORM. 'bulk': how many values and letters a reading holds, each counted each time it is reached (what is shared counts as often as it is met; a slice's spare places count too). A statement '..UptoSaid' is the law's where the arguments, and the package variables that the reading takes, are together of bulk at most 1048576: NARROWER than '..Said'. Prove '..Said' where nothing that the law and all that it calls make is longer than what came in: it says more and counts as full. Else prove '..UptoSaid'. A law counts once. -/
mutual
def uptoBulk {H : Type} : DataW H → Nat
  | .lit (.string bytes) => bytes.length + 1
  | .lit _ => 1
  | .nil => 1
  | .ptr d => uptoBulk d + 1
  | .slice elems spare => uptoBulkAll elems + uptoBulkAll spare + 1
  | .agg parts => uptoBulkAll parts + 1
  | .iface _ d => uptoBulk d + 1
  | .map entries => uptoBulkEntries entries + 1
  | .held _ => 1
def uptoBulkAll {H : Type} : List (DataW H) → Nat
  | [] => 0
  | d :: r => uptoBulk d + uptoBulkAll r
def uptoBulkEntries {H : Type} : List (Lit × DataW H) → Nat
  | [] => 0
  | x :: r => uptoBulkEntry x + uptoBulkEntries r
def uptoBulkEntry {H : Type} : Lit × DataW H → Nat
  | (.string bytes, d) => bytes.length + uptoBulk d + 1
  | (_, d) => uptoBulk d + 1
 end
def uptoSmall : (H : Type) → List (DataW H) → Bool := fun _ ds => decide (uptoBulkAll ds ≤ 1048576)
def OpenSpec.upto (s : _root_.Go.ChangeSpec) : _root_.Go.OpenSpec := { _root_.Go.OpenSpec.ofChange s with cond := some uptoSmall }

/-- 'laws.FnExactBillValid', WHERE WHAT IT READS IS OF BULK AT MOST 1048576: true; the input reads as it did. -/
def fnExactBillValidUptoRow : OpenClaim := { program := "ytcfdccjpbkcigaa", sum := "73c3b8dfa6e4101761fafcc80e029ffd92a3a38a832c3196c7b04a90e78a50aa", func := "loop.example/mailcoaches/laws.FnExactBillValid", spec := "fnExactBillValid", apart := false, narrowed := true }
def FnExactBillValidUptoSaid : Prop := fnExactBillValidUptoRow.holds Try.pinned (OpenSpec.upto fnExactBillValidSpec)

/-- 'laws.FnExactBillPound', WHERE WHAT IT READS IS OF BULK AT MOST 1048576: true; the input reads as it did. -/
def fnExactBillPoundUptoRow : OpenClaim := { program := "ytcfdccjpbkcigaa", sum := "73c3b8dfa6e4101761fafcc80e029ffd92a3a38a832c3196c7b04a90e78a50aa", func := "loop.example/mailcoaches/laws.FnExactBillPound", spec := "fnExactBillPound", apart := false, narrowed := true }
def FnExactBillPoundUptoSaid : Prop := fnExactBillPoundUptoRow.holds Try.pinned (OpenSpec.upto fnExactBillPoundSpec)

/-- 'laws.FnExactBillRoom', WHERE WHAT IT READS IS OF BULK AT MOST 1048576: true; the input reads as it did. -/
def fnExactBillRoomUptoRow : OpenClaim := { program := "ytcfdccjpbkcigaa", sum := "73c3b8dfa6e4101761fafcc80e029ffd92a3a38a832c3196c7b04a90e78a50aa", func := "loop.example/mailcoaches/laws.FnExactBillRoom", spec := "fnExactBillRoom", apart := false, narrowed := true }
def FnExactBillRoomUptoSaid : Prop := fnExactBillRoomUptoRow.holds Try.pinned (OpenSpec.upto fnExactBillRoomSpec)

/-- 'laws.FnExactBillTurn', WHERE WHAT IT READS IS OF BULK AT MOST 1048576: true; the input reads as it did. -/
def fnExactBillTurnUptoRow : OpenClaim := { program := "ytcfdccjpbkcigaa", sum := "73c3b8dfa6e4101761fafcc80e029ffd92a3a38a832c3196c7b04a90e78a50aa", func := "loop.example/mailcoaches/laws.FnExactBillTurn", spec := "fnExactBillTurn", apart := false, narrowed := true }
def FnExactBillTurnUptoSaid : Prop := fnExactBillTurnUptoRow.holds Try.pinned (OpenSpec.upto fnExactBillTurnSpec)

/-- 'laws.FnExactBillLoads', WHERE WHAT IT READS IS OF BULK AT MOST 1048576: true; the input reads as it did. -/
def fnExactBillLoadsUptoRow : OpenClaim := { program := "ytcfdccjpbkcigaa", sum := "73c3b8dfa6e4101761fafcc80e029ffd92a3a38a832c3196c7b04a90e78a50aa", func := "loop.example/mailcoaches/laws.FnExactBillLoads", spec := "fnExactBillLoads", apart := false, narrowed := true }
def FnExactBillLoadsUptoSaid : Prop := fnExactBillLoadsUptoRow.holds Try.pinned (OpenSpec.upto fnExactBillLoadsSpec)

/-- 'laws.FnExactBillDrop', WHERE WHAT IT READS IS OF BULK AT MOST 1048576: true; the input reads as it did. -/
def fnExactBillDropUptoRow : OpenClaim := { program := "ytcfdccjpbkcigaa", sum := "73c3b8dfa6e4101761fafcc80e029ffd92a3a38a832c3196c7b04a90e78a50aa", func := "loop.example/mailcoaches/laws.FnExactBillDrop", spec := "fnExactBillDrop", apart := false, narrowed := true }
def FnExactBillDropUptoSaid : Prop := fnExactBillDropUptoRow.holds Try.pinned (OpenSpec.upto fnExactBillDropSpec)

/-- 'laws.FnExactBillAdd', WHERE WHAT IT READS IS OF BULK AT MOST 1048576: true; the input reads as it did. -/
def fnExactBillAddUptoRow : OpenClaim := { program := "ytcfdccjpbkcigaa", sum := "73c3b8dfa6e4101761fafcc80e029ffd92a3a38a832c3196c7b04a90e78a50aa", func := "loop.example/mailcoaches/laws.FnExactBillAdd", spec := "fnExactBillAdd", apart := false, narrowed := true }
def FnExactBillAddUptoSaid : Prop := fnExactBillAddUptoRow.holds Try.pinned (OpenSpec.upto fnExactBillAddSpec)

/-- 'laws.FnExactBillJoin', WHERE WHAT IT READS IS OF BULK AT MOST 1048576: true; the input reads as it did. -/
def fnExactBillJoinUptoRow : OpenClaim := { program := "ytcfdccjpbkcigaa", sum := "73c3b8dfa6e4101761fafcc80e029ffd92a3a38a832c3196c7b04a90e78a50aa", func := "loop.example/mailcoaches/laws.FnExactBillJoin", spec := "fnExactBillJoin", apart := false, narrowed := true }
def FnExactBillJoinUptoSaid : Prop := fnExactBillJoinUptoRow.holds Try.pinned (OpenSpec.upto fnExactBillJoinSpec)

/-- 'laws.FnExactBillMoves', WHERE WHAT IT READS IS OF BULK AT MOST 1048576: true; the input reads as it did. -/
def fnExactBillMovesUptoRow : OpenClaim := { program := "ytcfdccjpbkcigaa", sum := "73c3b8dfa6e4101761fafcc80e029ffd92a3a38a832c3196c7b04a90e78a50aa", func := "loop.example/mailcoaches/laws.FnExactBillMoves", spec := "fnExactBillMoves", unfollowed := true, recurses := true, apart := false, narrowed := true }
def FnExactBillMovesUptoSaid : Prop := fnExactBillMovesUptoRow.holds Try.pinned (OpenSpec.upto fnExactBillMovesSpec)

/-- 'laws.FnExactBillNested', WHERE WHAT IT READS IS OF BULK AT MOST 1048576: true; the input reads as it did. -/
def fnExactBillNestedUptoRow : OpenClaim := { program := "ytcfdccjpbkcigaa", sum := "73c3b8dfa6e4101761fafcc80e029ffd92a3a38a832c3196c7b04a90e78a50aa", func := "loop.example/mailcoaches/laws.FnExactBillNested", spec := "fnExactBillNested", unfollowed := true, recurses := true, apart := false, narrowed := true }
def FnExactBillNestedUptoSaid : Prop := fnExactBillNestedUptoRow.holds Try.pinned (OpenSpec.upto fnExactBillNestedSpec)

/-- 'laws.FnExactBillStack', WHERE WHAT IT READS IS OF BULK AT MOST 1048576: true; the input reads as it did. -/
def fnExactBillStackUptoRow : OpenClaim := { program := "ytcfdccjpbkcigaa", sum := "73c3b8dfa6e4101761fafcc80e029ffd92a3a38a832c3196c7b04a90e78a50aa", func := "loop.example/mailcoaches/laws.FnExactBillStack", spec := "fnExactBillStack", unfollowed := true, recurses := true, apart := false, narrowed := true }
def FnExactBillStackUptoSaid : Prop := fnExactBillStackUptoRow.holds Try.pinned (OpenSpec.upto fnExactBillStackSpec)

/-- 'laws.FnExactBillOrder', WHERE WHAT IT READS IS OF BULK AT MOST 1048576: true; the input reads as it did. -/
def fnExactBillOrderUptoRow : OpenClaim := { program := "ytcfdccjpbkcigaa", sum := "73c3b8dfa6e4101761fafcc80e029ffd92a3a38a832c3196c7b04a90e78a50aa", func := "loop.example/mailcoaches/laws.FnExactBillOrder", spec := "fnExactBillOrder", unfollowed := true, recurses := true, apart := false, narrowed := true }
def FnExactBillOrderUptoSaid : Prop := fnExactBillOrderUptoRow.holds Try.pinned (OpenSpec.upto fnExactBillOrderSpec)

end Rows
end Go.Proofs.Ytcfdccjpbkcigaa
