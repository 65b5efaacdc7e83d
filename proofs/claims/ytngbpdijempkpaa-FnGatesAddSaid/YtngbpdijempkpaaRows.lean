/-
  No cell of these rows narrows 'for every input' (looked for: loops, veiled, ifaces, maps, wideKeys, modest, calm, conditions, laid).
  DERIVED. THE GIVEN ROWS OF THIS SEAT. 9 by the template 'for every input the law returns true; each argument reads behind the call as it read before'; 0 by the template 'total and deterministic' (their statements: YtngbpdijempkpaaTotals.lean).
  GIVEN WITH THE SEED: the statements are not yours to turn. If you find one false, say at which input.
  Laid BY PROGRAM, IN A SANDBOX (cutbox-rows.mjs): the forced cells as the released guide's own fill.sh prints them over the translation e13fe311a556bc38… (all of the seat's roots in one cut). By AI agents, Wed Nov 11 2026. No macro, syntax, notation, axiom, sorry.
-/
import Derived.Test.YtngbpdijempkpaaChecked
import GoSem.Claim
import GoSem.ClaimJoined
import GoSem.ClaimMapViews
import Derived.JoinedTies
import Derived.KernelRfl
namespace Go.Proofs.Ytngbpdijempkpaa
/- THE CELL 'sum', in the pinned program and in every row, IS THE sha256 OF THE DUMP (.gsa) THAT YtngbpdijempkpaaProg.lean LOADS. Nothing in Lean hashes anything: it is a label: what it is worth is what the hold of that sum in a sandbox is worth. -/
noncomputable def Try.pinned : Pinned := { name := "ytngbpdijempkpaa", sum := "e13fe311a556bc38248c9125f8cb0df4947061eb8970b189ed418bc375b703dd", checked := Try.checked }
namespace Rows
def none {H : Type} : Left H := { results := [], args := [] }

/-- 'laws.FnGatesDrop': WHATEVER THE INPUT: true; the input reads as it did. -/
def fnGatesDropSpec : ChangeSpec := { name := "fnGatesDrop", fn := fun _ => fun
  | [d] => { results := [.lit (.bool true)], args := [d] }
  | _ => none }
def fnGatesDropRow : OpenClaim := { program := "ytngbpdijempkpaa", sum := "e13fe311a556bc38248c9125f8cb0df4947061eb8970b189ed418bc375b703dd", func := "loop.example/mailcoaches/laws.FnGatesDrop", spec := "fnGatesDrop", apart := false }
def FnGatesDropSaid : Prop := fnGatesDropRow.holds Try.pinned (OpenSpec.ofChange fnGatesDropSpec)

/-- ITS FALSE NEIGHBOUR: 'it returns false'. Refute it at one input. -/
def fnGatesDropWrong : ChangeSpec := { name := "fnGatesDrop", fn := fun _ => fun
  | [d] => { results := [.lit (.bool false)], args := [d] }
  | _ => none }
def FnGatesDropWrongFalsely : Prop := fnGatesDropRow.holds Try.pinned (OpenSpec.ofChange fnGatesDropWrong)

/-- 'laws.FnTollMust': WHATEVER THE INPUT: true; the input reads as it did. -/
def fnTollMustSpec : ChangeSpec := { name := "fnTollMust", fn := fun _ => fun
  | [d] => { results := [.lit (.bool true)], args := [d] }
  | _ => none }
def fnTollMustRow : OpenClaim := { program := "ytngbpdijempkpaa", sum := "e13fe311a556bc38248c9125f8cb0df4947061eb8970b189ed418bc375b703dd", func := "loop.example/mailcoaches/laws.FnTollMust", spec := "fnTollMust", apart := false }
def FnTollMustSaid : Prop := fnTollMustRow.holds Try.pinned (OpenSpec.ofChange fnTollMustSpec)

/-- ITS FALSE NEIGHBOUR: 'it returns false'. Refute it at one input. -/
def fnTollMustWrong : ChangeSpec := { name := "fnTollMust", fn := fun _ => fun
  | [d] => { results := [.lit (.bool false)], args := [d] }
  | _ => none }
def FnTollMustWrongFalsely : Prop := fnTollMustRow.holds Try.pinned (OpenSpec.ofChange fnTollMustWrong)

/-- 'laws.FnTollValid': WHATEVER THE INPUT: true; the input reads as it did. -/
def fnTollValidSpec : ChangeSpec := { name := "fnTollValid", fn := fun _ => fun
  | [d] => { results := [.lit (.bool true)], args := [d] }
  | _ => none }
def fnTollValidRow : OpenClaim := { program := "ytngbpdijempkpaa", sum := "e13fe311a556bc38248c9125f8cb0df4947061eb8970b189ed418bc375b703dd", func := "loop.example/mailcoaches/laws.FnTollValid", spec := "fnTollValid", recurses := true, apart := false }
def FnTollValidSaid : Prop := fnTollValidRow.holds Try.pinned (OpenSpec.ofChange fnTollValidSpec)

/-- ITS FALSE NEIGHBOUR: 'it returns false'. Refute it at one input. -/
def fnTollValidWrong : ChangeSpec := { name := "fnTollValid", fn := fun _ => fun
  | [d] => { results := [.lit (.bool false)], args := [d] }
  | _ => none }
def FnTollValidWrongFalsely : Prop := fnTollValidRow.holds Try.pinned (OpenSpec.ofChange fnTollValidWrong)

/-- 'laws.FnGatesLater': WHATEVER THE INPUT: true; the input reads as it did. -/
def fnGatesLaterSpec : ChangeSpec := { name := "fnGatesLater", fn := fun _ => fun
  | [d1, d2] => { results := [.lit (.bool true)], args := [d1, d2] }
  | _ => none }
def fnGatesLaterRow : OpenClaim := { program := "ytngbpdijempkpaa", sum := "e13fe311a556bc38248c9125f8cb0df4947061eb8970b189ed418bc375b703dd", func := "loop.example/mailcoaches/laws.FnGatesLater", spec := "fnGatesLater", unfollowed := true, recurses := true, apart := false }
def FnGatesLaterSaid : Prop := fnGatesLaterRow.holds Try.pinned (OpenSpec.ofChange fnGatesLaterSpec)

/-- ITS FALSE NEIGHBOUR: 'it returns false'. Refute it at one input. -/
def fnGatesLaterWrong : ChangeSpec := { name := "fnGatesLater", fn := fun _ => fun
  | [d1, d2] => { results := [.lit (.bool false)], args := [d1, d2] }
  | _ => none }
def FnGatesLaterWrongFalsely : Prop := fnGatesLaterRow.holds Try.pinned (OpenSpec.ofChange fnGatesLaterWrong)

/-- 'laws.FnTollLeast': WHATEVER THE INPUT: true; the input reads as it did. -/
def fnTollLeastSpec : ChangeSpec := { name := "fnTollLeast", fn := fun _ => fun
  | [d1, d2] => { results := [.lit (.bool true)], args := [d1, d2] }
  | _ => none }
def fnTollLeastRow : OpenClaim := { program := "ytngbpdijempkpaa", sum := "e13fe311a556bc38248c9125f8cb0df4947061eb8970b189ed418bc375b703dd", func := "loop.example/mailcoaches/laws.FnTollLeast", spec := "fnTollLeast", unfollowed := true, recurses := true, apart := false }
def FnTollLeastSaid : Prop := fnTollLeastRow.holds Try.pinned (OpenSpec.ofChange fnTollLeastSpec)

/-- ITS FALSE NEIGHBOUR: 'it returns false'. Refute it at one input. -/
def fnTollLeastWrong : ChangeSpec := { name := "fnTollLeast", fn := fun _ => fun
  | [d1, d2] => { results := [.lit (.bool false)], args := [d1, d2] }
  | _ => none }
def FnTollLeastWrongFalsely : Prop := fnTollLeastRow.holds Try.pinned (OpenSpec.ofChange fnTollLeastWrong)

/-- 'laws.FnGatesAdd': WHATEVER THE INPUT: true; the input reads as it did. -/
def fnGatesAddSpec : ChangeSpec := { name := "fnGatesAdd", fn := fun _ => fun
  | [d1, d2] => { results := [.lit (.bool true)], args := [d1, d2] }
  | _ => none }
def fnGatesAddRow : OpenClaim := { program := "ytngbpdijempkpaa", sum := "e13fe311a556bc38248c9125f8cb0df4947061eb8970b189ed418bc375b703dd", func := "loop.example/mailcoaches/laws.FnGatesAdd", spec := "fnGatesAdd", unfollowed := true, recurses := true, apart := false }
def FnGatesAddSaid : Prop := fnGatesAddRow.holds Try.pinned (OpenSpec.ofChange fnGatesAddSpec)

/-- ITS FALSE NEIGHBOUR: 'it returns false'. Refute it at one input. -/
def fnGatesAddWrong : ChangeSpec := { name := "fnGatesAdd", fn := fun _ => fun
  | [d1, d2] => { results := [.lit (.bool false)], args := [d1, d2] }
  | _ => none }
def FnGatesAddWrongFalsely : Prop := fnGatesAddRow.holds Try.pinned (OpenSpec.ofChange fnGatesAddWrong)

/-- 'laws.FnTollEach': WHATEVER THE INPUT: true; the input reads as it did. -/
def fnTollEachSpec : ChangeSpec := { name := "fnTollEach", fn := fun _ => fun
  | [d] => { results := [.lit (.bool true)], args := [d] }
  | _ => none }
def fnTollEachRow : OpenClaim := { program := "ytngbpdijempkpaa", sum := "e13fe311a556bc38248c9125f8cb0df4947061eb8970b189ed418bc375b703dd", func := "loop.example/mailcoaches/laws.FnTollEach", spec := "fnTollEach", unfollowed := true, recurses := true, apart := false }
def FnTollEachSaid : Prop := fnTollEachRow.holds Try.pinned (OpenSpec.ofChange fnTollEachSpec)

/-- ITS FALSE NEIGHBOUR: 'it returns false'. Refute it at one input. -/
def fnTollEachWrong : ChangeSpec := { name := "fnTollEach", fn := fun _ => fun
  | [d] => { results := [.lit (.bool false)], args := [d] }
  | _ => none }
def FnTollEachWrongFalsely : Prop := fnTollEachRow.holds Try.pinned (OpenSpec.ofChange fnTollEachWrong)

/-- 'laws.FnTollBest': WHATEVER THE INPUT: true; the input reads as it did. -/
def fnTollBestSpec : ChangeSpec := { name := "fnTollBest", fn := fun _ => fun
  | [d] => { results := [.lit (.bool true)], args := [d] }
  | _ => none }
def fnTollBestRow : OpenClaim := { program := "ytngbpdijempkpaa", sum := "e13fe311a556bc38248c9125f8cb0df4947061eb8970b189ed418bc375b703dd", func := "loop.example/mailcoaches/laws.FnTollBest", spec := "fnTollBest", unfollowed := true, recurses := true, apart := false }
def FnTollBestSaid : Prop := fnTollBestRow.holds Try.pinned (OpenSpec.ofChange fnTollBestSpec)

/-- ITS FALSE NEIGHBOUR: 'it returns false'. Refute it at one input. -/
def fnTollBestWrong : ChangeSpec := { name := "fnTollBest", fn := fun _ => fun
  | [d] => { results := [.lit (.bool false)], args := [d] }
  | _ => none }
def FnTollBestWrongFalsely : Prop := fnTollBestRow.holds Try.pinned (OpenSpec.ofChange fnTollBestWrong)

/-- 'laws.FnTollSum': WHATEVER THE INPUT: true; the input reads as it did. -/
def fnTollSumSpec : ChangeSpec := { name := "fnTollSum", fn := fun _ => fun
  | [d] => { results := [.lit (.bool true)], args := [d] }
  | _ => none }
def fnTollSumRow : OpenClaim := { program := "ytngbpdijempkpaa", sum := "e13fe311a556bc38248c9125f8cb0df4947061eb8970b189ed418bc375b703dd", func := "loop.example/mailcoaches/laws.FnTollSum", spec := "fnTollSum", unfollowed := true, recurses := true, apart := false }
def FnTollSumSaid : Prop := fnTollSumRow.holds Try.pinned (OpenSpec.ofChange fnTollSumSpec)

/-- ITS FALSE NEIGHBOUR: 'it returns false'. Refute it at one input. -/
def fnTollSumWrong : ChangeSpec := { name := "fnTollSum", fn := fun _ => fun
  | [d] => { results := [.lit (.bool false)], args := [d] }
  | _ => none }
def FnTollSumWrongFalsely : Prop := fnTollSumRow.holds Try.pinned (OpenSpec.ofChange fnTollSumWrong)

/- THE SECOND FORM. 'bulk': how many values and letters a reading holds, each counted each time it is reached (what is shared counts as often as it is met; a slice's spare places count too). A statement '..UptoSaid' is the law's where the arguments, and the package variables that the reading takes, are together of bulk at most 1048576: NARROWER than '..Said'. Prove '..Said' where nothing that the law and all that it calls make is longer than what came in: it says more and counts as full. Else prove '..UptoSaid'. A law counts once. -/
mutual
def uptoBulk {H : Type} : DataW H → Nat
  | .lit (.string bytes) => bytes.length + 1
  | .lit _ => 1
  | .nil => 1
  | .ptr d => uptoBulk d + 1
  | .slice elems spare => uptoBulkAll elems + uptoBulkAll spare + 1
  | .agg parts => uptoBulkAll parts + 1
  | .iface _ d => uptoBulk d + 1
  | .map entries => uptoBulkEntries entries + 1
  | .held _ => 1
def uptoBulkAll {H : Type} : List (DataW H) → Nat
  | [] => 0
  | d :: r => uptoBulk d + uptoBulkAll r
def uptoBulkEntries {H : Type} : List (Lit × DataW H) → Nat
  | [] => 0
  | x :: r => uptoBulkEntry x + uptoBulkEntries r
def uptoBulkEntry {H : Type} : Lit × DataW H → Nat
  | (.string bytes, d) => bytes.length + uptoBulk d + 1
  | (_, d) => uptoBulk d + 1
 end
def uptoSmall : (H : Type) → List (DataW H) → Bool := fun _ ds => decide (uptoBulkAll ds ≤ 1048576)
def OpenSpec.upto (s : _root_.Go.ChangeSpec) : _root_.Go.OpenSpec := { _root_.Go.OpenSpec.ofChange s with cond := some uptoSmall }

/-- 'laws.FnGatesDrop', WHERE WHAT IT READS IS OF BULK AT MOST 1048576: true; the input reads as it did. -/
def fnGatesDropUptoRow : OpenClaim := { program := "ytngbpdijempkpaa", sum := "e13fe311a556bc38248c9125f8cb0df4947061eb8970b189ed418bc375b703dd", func := "loop.example/mailcoaches/laws.FnGatesDrop", spec := "fnGatesDrop", apart := false, narrowed := true }
def FnGatesDropUptoSaid : Prop := fnGatesDropUptoRow.holds Try.pinned (OpenSpec.upto fnGatesDropSpec)

/-- 'laws.FnTollMust', WHERE WHAT IT READS IS OF BULK AT MOST 1048576: true; the input reads as it did. -/
def fnTollMustUptoRow : OpenClaim := { program := "ytngbpdijempkpaa", sum := "e13fe311a556bc38248c9125f8cb0df4947061eb8970b189ed418bc375b703dd", func := "loop.example/mailcoaches/laws.FnTollMust", spec := "fnTollMust", apart := false, narrowed := true }
def FnTollMustUptoSaid : Prop := fnTollMustUptoRow.holds Try.pinned (OpenSpec.upto fnTollMustSpec)

/-- 'laws.FnTollValid', WHERE WHAT IT READS IS OF BULK AT MOST 1048576: true; the input reads as it did. -/
def fnTollValidUptoRow : OpenClaim := { program := "ytngbpdijempkpaa", sum := "e13fe311a556bc38248c9125f8cb0df4947061eb8970b189ed418bc375b703dd", func := "loop.example/mailcoaches/laws.FnTollValid", spec := "fnTollValid", recurses := true, apart := false, narrowed := true }
def FnTollValidUptoSaid : Prop := fnTollValidUptoRow.holds Try.pinned (OpenSpec.upto fnTollValidSpec)

/-- 'laws.FnGatesLater', WHERE WHAT IT READS IS OF BULK AT MOST 1048576: true; the input reads as it did. -/
def fnGatesLaterUptoRow : OpenClaim := { program := "ytngbpdijempkpaa", sum := "e13fe311a556bc38248c9125f8cb0df4947061eb8970b189ed418bc375b703dd", func := "loop.example/mailcoaches/laws.FnGatesLater", spec := "fnGatesLater", unfollowed := true, recurses := true, apart := false, narrowed := true }
def FnGatesLaterUptoSaid : Prop := fnGatesLaterUptoRow.holds Try.pinned (OpenSpec.upto fnGatesLaterSpec)

/-- 'laws.FnTollLeast', WHERE WHAT IT READS IS OF BULK AT MOST 1048576: true; the input reads as it did. -/
def fnTollLeastUptoRow : OpenClaim := { program := "ytngbpdijempkpaa", sum := "e13fe311a556bc38248c9125f8cb0df4947061eb8970b189ed418bc375b703dd", func := "loop.example/mailcoaches/laws.FnTollLeast", spec := "fnTollLeast", unfollowed := true, recurses := true, apart := false, narrowed := true }
def FnTollLeastUptoSaid : Prop := fnTollLeastUptoRow.holds Try.pinned (OpenSpec.upto fnTollLeastSpec)

/-- 'laws.FnGatesAdd', WHERE WHAT IT READS IS OF BULK AT MOST 1048576: true; the input reads as it did. -/
def fnGatesAddUptoRow : OpenClaim := { program := "ytngbpdijempkpaa", sum := "e13fe311a556bc38248c9125f8cb0df4947061eb8970b189ed418bc375b703dd", func := "loop.example/mailcoaches/laws.FnGatesAdd", spec := "fnGatesAdd", unfollowed := true, recurses := true, apart := false, narrowed := true }
def FnGatesAddUptoSaid : Prop := fnGatesAddUptoRow.holds Try.pinned (OpenSpec.upto fnGatesAddSpec)

/-- 'laws.FnTollEach', WHERE WHAT IT READS IS OF BULK AT MOST 1048576: true; the input reads as it did. -/
def fnTollEachUptoRow : OpenClaim := { program := "ytngbpdijempkpaa", sum := "e13fe311a556bc38248c9125f8cb0df4947061eb8970b189ed418bc375b703dd", func := "loop.example/mailcoaches/laws.FnTollEach", spec := "fnTollEach", unfollowed := true, recurses := true, apart := false, narrowed := true }
def FnTollEachUptoSaid : Prop := fnTollEachUptoRow.holds Try.pinned (OpenSpec.upto fnTollEachSpec)

/-- 'laws.FnTollBest', WHERE WHAT IT READS IS OF BULK AT MOST 1048576: true; the input reads as it did. -/
def fnTollBestUptoRow : OpenClaim := { program := "ytngbpdijempkpaa", sum := "e13fe311a556bc38248c9125f8cb0df4947061eb8970b189ed418bc375b703dd", func := "loop.example/mailcoaches/laws.FnTollBest", spec := "fnTollBest", unfollowed := true, recurses := true, apart := false, narrowed := true }
def FnTollBestUptoSaid : Prop := fnTollBestUptoRow.holds Try.pinned (OpenSpec.upto fnTollBestSpec)

/-- 'laws.FnTollSum', WHERE WHAT IT READS IS OF BULK AT MOST 1048576: true; the input reads as it did. -/
def fnTollSumUptoRow : OpenClaim := { program := "ytngbpdijempkpaa", sum := "e13fe311a556bc38248c9125f8cb0df4947061eb8970b189ed418bc375b703dd", func := "loop.example/mailcoaches/laws.FnTollSum", spec := "fnTollSum", unfollowed := true, recurses := true, apart := false, narrowed := true }
def FnTollSumUptoSaid : Prop := fnTollSumUptoRow.holds Try.pinned (OpenSpec.upto fnTollSumSpec)

end Rows
end Go.Proofs.Ytngbpdijempkpaa
