/-
  No cell of these rows narrows 'for every input' (looked for: loops, veiled, ifaces, maps, wideKeys, modest, calm, conditions, laid).
  DERIVED. THE GIVEN ROWS OF THIS SEAT. 13 by the template 'for every input the law returns true; each argument reads behind the call as it read before'; 0 by the template 'total and deterministic' (their statements: YtdfgogcefnamcaaTotals.lean).
  GIVEN WITH THE SEED: the statements are not yours to turn. If you find one false, say at which input.
  Laid BY PROGRAM, IN A SANDBOX (cutbox-rows.mjs): the forced cells as the released guide's own fill.sh prints them over the translation 9fe68d2745509116… (all of the seat's roots in one cut). By AI agents, Wed Nov 11 2026. No macro, syntax, notation, axiom, sorry.
-/
import Derived.Test.YtdfgogcefnamcaaChecked
import GoSem.Claim
import GoSem.ClaimJoined
import GoSem.ClaimMapViews
import Derived.JoinedTies
import Derived.KernelRfl
namespace Go.Proofs.Ytdfgogcefnamcaa
/- THE CELL 'sum', in the pinned program and in every row, IS THE sha256 OF THE DUMP (.gsa) THAT YtdfgogcefnamcaaProg.lean LOADS. Nothing in Lean hashes anything: it is a label: what it is worth is what the hold of that sum in a sandbox is worth. -/
noncomputable def Try.pinned : Pinned := { name := "ytdfgogcefnamcaa", sum := "9fe68d27455091161e8198aa239403eb0f0b8e50b396ceaa18e3d74aaf887767", checked := Try.checked }
namespace Rows
def none {H : Type} : Left H := { results := [], args := [] }

/-- 'laws.FnBill': WHATEVER THE INPUT: true; the input reads as it did. -/
def fnBillSpec : ChangeSpec := { name := "fnBill", fn := fun _ => fun
  | [d1, d2] => { results := [.lit (.bool true)], args := [d1, d2] }
  | _ => none }
def fnBillRow : OpenClaim := { program := "ytdfgogcefnamcaa", sum := "9fe68d27455091161e8198aa239403eb0f0b8e50b396ceaa18e3d74aaf887767", func := "loop.example/mailcoaches/laws.FnBill", spec := "fnBill", apart := false }
def FnBillSaid : Prop := fnBillRow.holds Try.pinned (OpenSpec.ofChange fnBillSpec)

/-- ITS FALSE NEIGHBOUR: 'it returns false'. Refute it at one input. -/
def fnBillWrong : ChangeSpec := { name := "fnBill", fn := fun _ => fun
  | [d1, d2] => { results := [.lit (.bool false)], args := [d1, d2] }
  | _ => none }
def FnBillWrongFalsely : Prop := fnBillRow.holds Try.pinned (OpenSpec.ofChange fnBillWrong)

/-- 'laws.FnBillPound': WHATEVER THE INPUT: true; the input reads as it did. -/
def fnBillPoundSpec : ChangeSpec := { name := "fnBillPound", fn := fun _ => fun
  | [d] => { results := [.lit (.bool true)], args := [d] }
  | _ => none }
def fnBillPoundRow : OpenClaim := { program := "ytdfgogcefnamcaa", sum := "9fe68d27455091161e8198aa239403eb0f0b8e50b396ceaa18e3d74aaf887767", func := "loop.example/mailcoaches/laws.FnBillPound", spec := "fnBillPound", apart := false }
def FnBillPoundSaid : Prop := fnBillPoundRow.holds Try.pinned (OpenSpec.ofChange fnBillPoundSpec)

/-- ITS FALSE NEIGHBOUR: 'it returns false'. Refute it at one input. -/
def fnBillPoundWrong : ChangeSpec := { name := "fnBillPound", fn := fun _ => fun
  | [d] => { results := [.lit (.bool false)], args := [d] }
  | _ => none }
def FnBillPoundWrongFalsely : Prop := fnBillPoundRow.holds Try.pinned (OpenSpec.ofChange fnBillPoundWrong)

/-- 'laws.FnBillLoads': WHATEVER THE INPUT: true; the input reads as it did. -/
def fnBillLoadsSpec : ChangeSpec := { name := "fnBillLoads", fn := fun _ => fun
  | [d] => { results := [.lit (.bool true)], args := [d] }
  | _ => none }
def fnBillLoadsRow : OpenClaim := { program := "ytdfgogcefnamcaa", sum := "9fe68d27455091161e8198aa239403eb0f0b8e50b396ceaa18e3d74aaf887767", func := "loop.example/mailcoaches/laws.FnBillLoads", spec := "fnBillLoads", apart := false }
def FnBillLoadsSaid : Prop := fnBillLoadsRow.holds Try.pinned (OpenSpec.ofChange fnBillLoadsSpec)

/-- ITS FALSE NEIGHBOUR: 'it returns false'. Refute it at one input. -/
def fnBillLoadsWrong : ChangeSpec := { name := "fnBillLoads", fn := fun _ => fun
  | [d] => { results := [.lit (.bool false)], args := [d] }
  | _ => none }
def FnBillLoadsWrongFalsely : Prop := fnBillLoadsRow.holds Try.pinned (OpenSpec.ofChange fnBillLoadsWrong)

/-- 'laws.FnBillTurn': WHATEVER THE INPUT: true; the input reads as it did. -/
def fnBillTurnSpec : ChangeSpec := { name := "fnBillTurn", fn := fun _ => fun
  | [d] => { results := [.lit (.bool true)], args := [d] }
  | _ => none }
def fnBillTurnRow : OpenClaim := { program := "ytdfgogcefnamcaa", sum := "9fe68d27455091161e8198aa239403eb0f0b8e50b396ceaa18e3d74aaf887767", func := "loop.example/mailcoaches/laws.FnBillTurn", spec := "fnBillTurn", apart := false }
def FnBillTurnSaid : Prop := fnBillTurnRow.holds Try.pinned (OpenSpec.ofChange fnBillTurnSpec)

/-- ITS FALSE NEIGHBOUR: 'it returns false'. Refute it at one input. -/
def fnBillTurnWrong : ChangeSpec := { name := "fnBillTurn", fn := fun _ => fun
  | [d] => { results := [.lit (.bool false)], args := [d] }
  | _ => none }
def FnBillTurnWrongFalsely : Prop := fnBillTurnRow.holds Try.pinned (OpenSpec.ofChange fnBillTurnWrong)

/-- 'laws.FnBillRoom': WHATEVER THE INPUT: true; the input reads as it did. -/
def fnBillRoomSpec : ChangeSpec := { name := "fnBillRoom", fn := fun _ => fun
  | [d1, d2] => { results := [.lit (.bool true)], args := [d1, d2] }
  | _ => none }
def fnBillRoomRow : OpenClaim := { program := "ytdfgogcefnamcaa", sum := "9fe68d27455091161e8198aa239403eb0f0b8e50b396ceaa18e3d74aaf887767", func := "loop.example/mailcoaches/laws.FnBillRoom", spec := "fnBillRoom", apart := false }
def FnBillRoomSaid : Prop := fnBillRoomRow.holds Try.pinned (OpenSpec.ofChange fnBillRoomSpec)

/-- ITS FALSE NEIGHBOUR: 'it returns false'. Refute it at one input. -/
def fnBillRoomWrong : ChangeSpec := { name := "fnBillRoom", fn := fun _ => fun
  | [d1, d2] => { results := [.lit (.bool false)], args := [d1, d2] }
  | _ => none }
def FnBillRoomWrongFalsely : Prop := fnBillRoomRow.holds Try.pinned (OpenSpec.ofChange fnBillRoomWrong)

/-- 'laws.FnBillMoves': WHATEVER THE INPUT: true; the input reads as it did. -/
def fnBillMovesSpec : ChangeSpec := { name := "fnBillMoves", fn := fun _ => fun
  | [d] => { results := [.lit (.bool true)], args := [d] }
  | _ => none }
def fnBillMovesRow : OpenClaim := { program := "ytdfgogcefnamcaa", sum := "9fe68d27455091161e8198aa239403eb0f0b8e50b396ceaa18e3d74aaf887767", func := "loop.example/mailcoaches/laws.FnBillMoves", spec := "fnBillMoves", unfollowed := true, recurses := true, apart := false }
def FnBillMovesSaid : Prop := fnBillMovesRow.holds Try.pinned (OpenSpec.ofChange fnBillMovesSpec)

/-- ITS FALSE NEIGHBOUR: 'it returns false'. Refute it at one input. -/
def fnBillMovesWrong : ChangeSpec := { name := "fnBillMoves", fn := fun _ => fun
  | [d] => { results := [.lit (.bool false)], args := [d] }
  | _ => none }
def FnBillMovesWrongFalsely : Prop := fnBillMovesRow.holds Try.pinned (OpenSpec.ofChange fnBillMovesWrong)

/-- 'laws.FnBillStack': WHATEVER THE INPUT: true; the input reads as it did. -/
def fnBillStackSpec : ChangeSpec := { name := "fnBillStack", fn := fun _ => fun
  | [d] => { results := [.lit (.bool true)], args := [d] }
  | _ => none }
def fnBillStackRow : OpenClaim := { program := "ytdfgogcefnamcaa", sum := "9fe68d27455091161e8198aa239403eb0f0b8e50b396ceaa18e3d74aaf887767", func := "loop.example/mailcoaches/laws.FnBillStack", spec := "fnBillStack", unfollowed := true, recurses := true, apart := false }
def FnBillStackSaid : Prop := fnBillStackRow.holds Try.pinned (OpenSpec.ofChange fnBillStackSpec)

/-- ITS FALSE NEIGHBOUR: 'it returns false'. Refute it at one input. -/
def fnBillStackWrong : ChangeSpec := { name := "fnBillStack", fn := fun _ => fun
  | [d] => { results := [.lit (.bool false)], args := [d] }
  | _ => none }
def FnBillStackWrongFalsely : Prop := fnBillStackRow.holds Try.pinned (OpenSpec.ofChange fnBillStackWrong)

/-- 'laws.FnBillNested': WHATEVER THE INPUT: true; the input reads as it did. -/
def fnBillNestedSpec : ChangeSpec := { name := "fnBillNested", fn := fun _ => fun
  | [d1, d2] => { results := [.lit (.bool true)], args := [d1, d2] }
  | _ => none }
def fnBillNestedRow : OpenClaim := { program := "ytdfgogcefnamcaa", sum := "9fe68d27455091161e8198aa239403eb0f0b8e50b396ceaa18e3d74aaf887767", func := "loop.example/mailcoaches/laws.FnBillNested", spec := "fnBillNested", unfollowed := true, recurses := true, apart := false }
def FnBillNestedSaid : Prop := fnBillNestedRow.holds Try.pinned (OpenSpec.ofChange fnBillNestedSpec)

/-- ITS FALSE NEIGHBOUR: 'it returns false'. Refute it at one input. -/
def fnBillNestedWrong : ChangeSpec := { name := "fnBillNested", fn := fun _ => fun
  | [d1, d2] => { results := [.lit (.bool false)], args := [d1, d2] }
  | _ => none }
def FnBillNestedWrongFalsely : Prop := fnBillNestedRow.holds Try.pinned (OpenSpec.ofChange fnBillNestedWrong)

/-- 'laws.FnBillDrop': WHATEVER THE INPUT: true; the input reads as it did. -/
def fnBillDropSpec : ChangeSpec := { name := "fnBillDrop", fn := fun _ => fun
  | [d] => { results := [.lit (.bool true)], args := [d] }
  | _ => none }
def fnBillDropRow : OpenClaim := { program := "ytdfgogcefnamcaa", sum := "9fe68d27455091161e8198aa239403eb0f0b8e50b396ceaa18e3d74aaf887767", func := "loop.example/mailcoaches/laws.FnBillDrop", spec := "fnBillDrop", unfollowed := true, recurses := true, apart := false }
def FnBillDropSaid : Prop := fnBillDropRow.holds Try.pinned (OpenSpec.ofChange fnBillDropSpec)

/-- ITS FALSE NEIGHBOUR: 'it returns false'. Refute it at one input. -/
def fnBillDropWrong : ChangeSpec := { name := "fnBillDrop", fn := fun _ => fun
  | [d] => { results := [.lit (.bool false)], args := [d] }
  | _ => none }
def FnBillDropWrongFalsely : Prop := fnBillDropRow.holds Try.pinned (OpenSpec.ofChange fnBillDropWrong)

/-- 'laws.FnBillAdd': WHATEVER THE INPUT: true; the input reads as it did. -/
def fnBillAddSpec : ChangeSpec := { name := "fnBillAdd", fn := fun _ => fun
  | [d] => { results := [.lit (.bool true)], args := [d] }
  | _ => none }
def fnBillAddRow : OpenClaim := { program := "ytdfgogcefnamcaa", sum := "9fe68d27455091161e8198aa239403eb0f0b8e50b396ceaa18e3d74aaf887767", func := "loop.example/mailcoaches/laws.FnBillAdd", spec := "fnBillAdd", unfollowed := true, recurses := true, apart := false }
def FnBillAddSaid : Prop := fnBillAddRow.holds Try.pinned (OpenSpec.ofChange fnBillAddSpec)

/-- ITS FALSE NEIGHBOUR: 'it returns false'. Refute it at one input. -/
def fnBillAddWrong : ChangeSpec := { name := "fnBillAdd", fn := fun _ => fun
  | [d] => { results := [.lit (.bool false)], args := [d] }
  | _ => none }
def FnBillAddWrongFalsely : Prop := fnBillAddRow.holds Try.pinned (OpenSpec.ofChange fnBillAddWrong)

/-- 'laws.FnBillJoin': WHATEVER THE INPUT: true; the input reads as it did. -/
def fnBillJoinSpec : ChangeSpec := { name := "fnBillJoin", fn := fun _ => fun
  | [d] => { results := [.lit (.bool true)], args := [d] }
  | _ => none }
def fnBillJoinRow : OpenClaim := { program := "ytdfgogcefnamcaa", sum := "9fe68d27455091161e8198aa239403eb0f0b8e50b396ceaa18e3d74aaf887767", func := "loop.example/mailcoaches/laws.FnBillJoin", spec := "fnBillJoin", unfollowed := true, recurses := true, apart := false }
def FnBillJoinSaid : Prop := fnBillJoinRow.holds Try.pinned (OpenSpec.ofChange fnBillJoinSpec)

/-- ITS FALSE NEIGHBOUR: 'it returns false'. Refute it at one input. -/
def fnBillJoinWrong : ChangeSpec := { name := "fnBillJoin", fn := fun _ => fun
  | [d] => { results := [.lit (.bool false)], args := [d] }
  | _ => none }
def FnBillJoinWrongFalsely : Prop := fnBillJoinRow.holds Try.pinned (OpenSpec.ofChange fnBillJoinWrong)

/-- 'laws.FnBillOrder': WHATEVER THE INPUT: true; the input reads as it did. -/
def fnBillOrderSpec : ChangeSpec := { name := "fnBillOrder", fn := fun _ => fun
  | [d] => { results := [.lit (.bool true)], args := [d] }
  | _ => none }
def fnBillOrderRow : OpenClaim := { program := "ytdfgogcefnamcaa", sum := "9fe68d27455091161e8198aa239403eb0f0b8e50b396ceaa18e3d74aaf887767", func := "loop.example/mailcoaches/laws.FnBillOrder", spec := "fnBillOrder", unfollowed := true, recurses := true, apart := false }
def FnBillOrderSaid : Prop := fnBillOrderRow.holds Try.pinned (OpenSpec.ofChange fnBillOrderSpec)

/-- ITS FALSE NEIGHBOUR: 'it returns false'. Refute it at one input. -/
def fnBillOrderWrong : ChangeSpec := { name := "fnBillOrder", fn := fun _ => fun
  | [d] => { results := [.lit (.bool false)], args := [d] }
  | _ => none }
def FnBillOrderWrongFalsely : Prop := fnBillOrderRow.holds Try.pinned (OpenSpec.ofChange fnBillOrderWrong)

/-- 'laws.FnExactBillOrder': WHATEVER THE INPUT: true; the input reads as it did. -/
def fnExactBillOrderSpec : ChangeSpec := { name := "fnExactBillOrder", fn := fun _ => fun
  | [d1, d2] => { results := [.lit (.bool true)], args := [d1, d2] }
  | _ => none }
def fnExactBillOrderRow : OpenClaim := { program := "ytdfgogcefnamcaa", sum := "9fe68d27455091161e8198aa239403eb0f0b8e50b396ceaa18e3d74aaf887767", func := "loop.example/mailcoaches/laws.FnExactBillOrder", spec := "fnExactBillOrder", unfollowed := true, recurses := true, apart := false }
def FnExactBillOrderSaid : Prop := fnExactBillOrderRow.holds Try.pinned (OpenSpec.ofChange fnExactBillOrderSpec)

/-- ITS FALSE NEIGHBOUR: 'it returns false'. Refute it at one input. -/
def fnExactBillOrderWrong : ChangeSpec := { name := "fnExactBillOrder", fn := fun _ => fun
  | [d1, d2] => { results := [.lit (.bool false)], args := [d1, d2] }
  | _ => none }
def FnExactBillOrderWrongFalsely : Prop := fnExactBillOrderRow.holds Try.pinned (OpenSpec.ofChange fnExactBillOrderWrong)

/- THE SECOND FORM. 'bulk': how many values and letters a reading holds, each counted each time it is reached (what is shared counts as often as it is met; a slice's spare places count too). A statement '..UptoSaid' is the law's where the arguments, and the package variables that the reading takes, are together of bulk at most 1048576: NARROWER than '..Said'. Prove '..Said' where nothing that the law and all that it calls make is longer than what came in: it says more and counts as full. Else prove '..UptoSaid'. A law counts once. -/
mutual
def uptoBulk {H : Type} : DataW H → Nat
  | .lit (.string bytes) => bytes.length + 1
  | .lit _ => 1
  | .nil => 1
  | .ptr d => uptoBulk d + 1
  | .slice elems spare => uptoBulkAll elems + uptoBulkAll spare + 1
  | .agg parts => uptoBulkAll parts + 1
  | .iface _ d => uptoBulk d + 1
  | .map entries => uptoBulkEntries entries + 1
  | .held _ => 1
def uptoBulkAll {H : Type} : List (DataW H) → Nat
  | [] => 0
  | d :: r => uptoBulk d + uptoBulkAll r
def uptoBulkEntries {H : Type} : List (Lit × DataW H) → Nat
  | [] => 0
  | x :: r => uptoBulkEntry x + uptoBulkEntries r
def uptoBulkEntry {H : Type} : Lit × DataW H → Nat
  | (.string bytes, d) => bytes.length + uptoBulk d + 1
  | (_, d) => uptoBulk d + 1
 end
def uptoSmall : (H : Type) → List (DataW H) → Bool := fun _ ds => decide (uptoBulkAll ds ≤ 1048576)
def OpenSpec.upto (s : _root_.Go.ChangeSpec) : _root_.Go.OpenSpec := { _root_.Go.OpenSpec.ofChange s with cond := some uptoSmall }

/-- 'laws.FnBill', WHERE WHAT IT READS IS OF BULK AT MOST 1048576: true; the input reads as it did. -/
def fnBillUptoRow : OpenClaim := { program := "ytdfgogcefnamcaa", sum := "9fe68d27455091161e8198aa239403eb0f0b8e50b396ceaa18e3d74aaf887767", func := "loop.example/mailcoaches/laws.FnBill", spec := "fnBill", apart := false, narrowed := true }
def FnBillUptoSaid : Prop := fnBillUptoRow.holds Try.pinned (OpenSpec.upto fnBillSpec)

/-- 'laws.FnBillPound', WHERE WHAT IT READS IS OF BULK AT MOST 1048576: true; the input reads as it did. -/
def fnBillPoundUptoRow : OpenClaim := { program := "ytdfgogcefnamcaa", sum := "9fe68d27455091161e8198aa239403eb0f0b8e50b396ceaa18e3d74aaf887767", func := "loop.example/mailcoaches/laws.FnBillPound", spec := "fnBillPound", apart := false, narrowed := true }
def FnBillPoundUptoSaid : Prop := fnBillPoundUptoRow.holds Try.pinned (OpenSpec.upto fnBillPoundSpec)

/-- 'laws.FnBillLoads', WHERE WHAT IT READS IS OF BULK AT MOST 1048576: true; the input reads as it did. -/
def fnBillLoadsUptoRow : OpenClaim := { program := "ytdfgogcefnamcaa", sum := "9fe68d27455091161e8198aa239403eb0f0b8e50b396ceaa18e3d74aaf887767", func := "loop.example/mailcoaches/laws.FnBillLoads", spec := "fnBillLoads", apart := false, narrowed := true }
def FnBillLoadsUptoSaid : Prop := fnBillLoadsUptoRow.holds Try.pinned (OpenSpec.upto fnBillLoadsSpec)

/-- 'laws.FnBillTurn', WHERE WHAT IT READS IS OF BULK AT MOST 1048576: true; the input reads as it did. -/
def fnBillTurnUptoRow : OpenClaim := { program := "ytdfgogcefnamcaa", sum := "9fe68d27455091161e8198aa239403eb0f0b8e50b396ceaa18e3d74aaf887767", func := "loop.example/mailcoaches/laws.FnBillTurn", spec := "fnBillTurn", apart := false, narrowed := true }
def FnBillTurnUptoSaid : Prop := fnBillTurnUptoRow.holds Try.pinned (OpenSpec.upto fnBillTurnSpec)

/-- 'laws.FnBillRoom', WHERE WHAT IT READS IS OF BULK AT MOST 1048576: true; the input reads as it did. -/
def fnBillRoomUptoRow : OpenClaim := { program := "ytdfgogcefnamcaa", sum := "9fe68d27455091161e8198aa239403eb0f0b8e50b396ceaa18e3d74aaf887767", func := "loop.example/mailcoaches/laws.FnBillRoom", spec := "fnBillRoom", apart := false, narrowed := true }
def FnBillRoomUptoSaid : Prop := fnBillRoomUptoRow.holds Try.pinned (OpenSpec.upto fnBillRoomSpec)

/-- 'laws.FnBillMoves', WHERE WHAT IT READS IS OF BULK AT MOST 1048576: true; the input reads as it did. -/
def fnBillMovesUptoRow : OpenClaim := { program := "ytdfgogcefnamcaa", sum := "9fe68d27455091161e8198aa239403eb0f0b8e50b396ceaa18e3d74aaf887767", func := "loop.example/mailcoaches/laws.FnBillMoves", spec := "fnBillMoves", unfollowed := true, recurses := true, apart := false, narrowed := true }
def FnBillMovesUptoSaid : Prop := fnBillMovesUptoRow.holds Try.pinned (OpenSpec.upto fnBillMovesSpec)

/-- 'laws.FnBillStack', WHERE WHAT IT READS IS OF BULK AT MOST 1048576: true; the input reads as it did. -/
def fnBillStackUptoRow : OpenClaim := { program := "ytdfgogcefnamcaa", sum := "9fe68d27455091161e8198aa239403eb0f0b8e50b396ceaa18e3d74aaf887767", func := "loop.example/mailcoaches/laws.FnBillStack", spec := "fnBillStack", unfollowed := true, recurses := true, apart := false, narrowed := true }
def FnBillStackUptoSaid : Prop := fnBillStackUptoRow.holds Try.pinned (OpenSpec.upto fnBillStackSpec)

/-- 'laws.FnBillNested', WHERE WHAT IT READS IS OF BULK AT MOST 1048576: true; the input reads as it did. -/
def fnBillNestedUptoRow : OpenClaim := { program := "ytdfgogcefnamcaa", sum := "9fe68d27455091161e8198aa239403eb0f0b8e50b396ceaa18e3d74aaf887767", func := "loop.example/mailcoaches/laws.FnBillNested", spec := "fnBillNested", unfollowed := true, recurses := true, apart := false, narrowed := true }
def FnBillNestedUptoSaid : Prop := fnBillNestedUptoRow.holds Try.pinned (OpenSpec.upto fnBillNestedSpec)

/-- 'laws.FnBillDrop', WHERE WHAT IT READS IS OF BULK AT MOST 1048576: true; the input reads as it did. -/
def fnBillDropUptoRow : OpenClaim := { program := "ytdfgogcefnamcaa", sum := "9fe68d27455091161e8198aa239403eb0f0b8e50b396ceaa18e3d74aaf887767", func := "loop.example/mailcoaches/laws.FnBillDrop", spec := "fnBillDrop", unfollowed := true, recurses := true, apart := false, narrowed := true }
def FnBillDropUptoSaid : Prop := fnBillDropUptoRow.holds Try.pinned (OpenSpec.upto fnBillDropSpec)

/-- 'laws.FnBillAdd', WHERE WHAT IT READS IS OF BULK AT MOST 1048576: true; the input reads as it did. -/
def fnBillAddUptoRow : OpenClaim := { program := "ytdfgogcefnamcaa", sum := "9fe68d27455091161e8198aa239403eb0f0b8e50b396ceaa18e3d74aaf887767", func := "loop.example/mailcoaches/laws.FnBillAdd", spec := "fnBillAdd", unfollowed := true, recurses := true, apart := false, narrowed := true }
def FnBillAddUptoSaid : Prop := fnBillAddUptoRow.holds Try.pinned (OpenSpec.upto fnBillAddSpec)

/-- 'laws.FnBillJoin', WHERE WHAT IT READS IS OF BULK AT MOST 1048576: true; the input reads as it did. -/
def fnBillJoinUptoRow : OpenClaim := { program := "ytdfgogcefnamcaa", sum := "9fe68d27455091161e8198aa239403eb0f0b8e50b396ceaa18e3d74aaf887767", func := "loop.example/mailcoaches/laws.FnBillJoin", spec := "fnBillJoin", unfollowed := true, recurses := true, apart := false, narrowed := true }
def FnBillJoinUptoSaid : Prop := fnBillJoinUptoRow.holds Try.pinned (OpenSpec.upto fnBillJoinSpec)

/-- 'laws.FnBillOrder', WHERE WHAT IT READS IS OF BULK AT MOST 1048576: true; the input reads as it did. -/
def fnBillOrderUptoRow : OpenClaim := { program := "ytdfgogcefnamcaa", sum := "9fe68d27455091161e8198aa239403eb0f0b8e50b396ceaa18e3d74aaf887767", func := "loop.example/mailcoaches/laws.FnBillOrder", spec := "fnBillOrder", unfollowed := true, recurses := true, apart := false, narrowed := true }
def FnBillOrderUptoSaid : Prop := fnBillOrderUptoRow.holds Try.pinned (OpenSpec.upto fnBillOrderSpec)

/-- 'laws.FnExactBillOrder', WHERE WHAT IT READS IS OF BULK AT MOST 1048576: true; the input reads as it did. -/
def fnExactBillOrderUptoRow : OpenClaim := { program := "ytdfgogcefnamcaa", sum := "9fe68d27455091161e8198aa239403eb0f0b8e50b396ceaa18e3d74aaf887767", func := "loop.example/mailcoaches/laws.FnExactBillOrder", spec := "fnExactBillOrder", unfollowed := true, recurses := true, apart := false, narrowed := true }
def FnExactBillOrderUptoSaid : Prop := fnExactBillOrderUptoRow.holds Try.pinned (OpenSpec.upto fnExactBillOrderSpec)

end Rows
end Go.Proofs.Ytdfgogcefnamcaa
