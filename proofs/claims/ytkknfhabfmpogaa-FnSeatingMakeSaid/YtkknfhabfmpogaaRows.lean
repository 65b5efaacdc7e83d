/-
  No cell of these rows narrows 'for every input' (looked for: loops, veiled, ifaces, maps, wideKeys, modest, calm, conditions, laid).
  DERIVED. THE GIVEN ROWS OF THIS SEAT. 6 by the template 'for every input the law returns true; each argument reads behind the call as it read before'; 0 by the template 'total and deterministic' (their statements: YtkknfhabfmpogaaTotals.lean).
  GIVEN WITH THE SEED: the statements are not yours to turn. If you find one false, say at which input.
  Laid BY PROGRAM, IN A SANDBOX (cutbox-rows.mjs): the forced cells as the released guide's own fill.sh prints them over the translation 2acfcdba4b3697a3… (all of the seat's roots in one cut). By AI agents, Wed Nov 11 2026. No macro, syntax, notation, axiom, sorry.
-/
import Derived.Test.YtkknfhabfmpogaaChecked
import GoSem.Claim
import GoSem.ClaimJoined
import GoSem.ClaimMapViews
import Derived.JoinedTies
import Derived.KernelRfl
namespace Go.Proofs.Ytkknfhabfmpogaa
/- THE CELL 'sum', in the pinned program and in every row, IS THE sha256 OF THE DUMP (.gsa) THAT YtkknfhabfmpogaaProg.lean LOADS. Nothing in Lean hashes anything: it is a label: what it is worth is what the hold of that sum in a sandbox is worth. -/
noncomputable def Try.pinned : Pinned := { name := "ytkknfhabfmpogaa", sum := "2acfcdba4b3697a38bc19a46837b98bba9d1881fd4a7e6d02409e42af27e25d3", checked := Try.checked }
namespace Rows
def none {H : Type} : Left H := { results := [], args := [] }

/-- 'laws.FnBookings': WHATEVER THE INPUT: true; the input reads as it did. -/
def fnBookingsSpec : ChangeSpec := { name := "fnBookings", fn := fun _ => fun
  | [d1, d2] => { results := [.lit (.bool true)], args := [d1, d2] }
  | _ => none }
def fnBookingsRow : OpenClaim := { program := "ytkknfhabfmpogaa", sum := "2acfcdba4b3697a38bc19a46837b98bba9d1881fd4a7e6d02409e42af27e25d3", func := "loop.example/mailcoaches/laws.FnBookings", spec := "fnBookings", unfollowed := true, recurses := true, apart := false }
def FnBookingsSaid : Prop := fnBookingsRow.holds Try.pinned (OpenSpec.ofChange fnBookingsSpec)

/-- ITS FALSE NEIGHBOUR: 'it returns false'. Refute it at one input. -/
def fnBookingsWrong : ChangeSpec := { name := "fnBookings", fn := fun _ => fun
  | [d1, d2] => { results := [.lit (.bool false)], args := [d1, d2] }
  | _ => none }
def FnBookingsWrongFalsely : Prop := fnBookingsRow.holds Try.pinned (OpenSpec.ofChange fnBookingsWrong)

/-- 'laws.FnExactSeatingValid': WHATEVER THE INPUT: true; the input reads as it did. -/
def fnExactSeatingValidSpec : ChangeSpec := { name := "fnExactSeatingValid", fn := fun _ => fun
  | [d1, d2, d3] => { results := [.lit (.bool true)], args := [d1, d2, d3] }
  | _ => none }
def fnExactSeatingValidRow : OpenClaim := { program := "ytkknfhabfmpogaa", sum := "2acfcdba4b3697a38bc19a46837b98bba9d1881fd4a7e6d02409e42af27e25d3", func := "loop.example/mailcoaches/laws.FnExactSeatingValid", spec := "fnExactSeatingValid", unfollowed := true, recurses := true, apart := false }
def FnExactSeatingValidSaid : Prop := fnExactSeatingValidRow.holds Try.pinned (OpenSpec.ofChange fnExactSeatingValidSpec)

/-- ITS FALSE NEIGHBOUR: 'it returns false'. Refute it at one input. -/
def fnExactSeatingValidWrong : ChangeSpec := { name := "fnExactSeatingValid", fn := fun _ => fun
  | [d1, d2, d3] => { results := [.lit (.bool false)], args := [d1, d2, d3] }
  | _ => none }
def FnExactSeatingValidWrongFalsely : Prop := fnExactSeatingValidRow.holds Try.pinned (OpenSpec.ofChange fnExactSeatingValidWrong)

/-- 'laws.FnSeating': WHATEVER THE INPUT: true; the input reads as it did. -/
def fnSeatingSpec : ChangeSpec := { name := "fnSeating", fn := fun _ => fun
  | [d1, d2] => { results := [.lit (.bool true)], args := [d1, d2] }
  | _ => none }
def fnSeatingRow : OpenClaim := { program := "ytkknfhabfmpogaa", sum := "2acfcdba4b3697a38bc19a46837b98bba9d1881fd4a7e6d02409e42af27e25d3", func := "loop.example/mailcoaches/laws.FnSeating", spec := "fnSeating", unfollowed := true, recurses := true, apart := false }
def FnSeatingSaid : Prop := fnSeatingRow.holds Try.pinned (OpenSpec.ofChange fnSeatingSpec)

/-- ITS FALSE NEIGHBOUR: 'it returns false'. Refute it at one input. -/
def fnSeatingWrong : ChangeSpec := { name := "fnSeating", fn := fun _ => fun
  | [d1, d2] => { results := [.lit (.bool false)], args := [d1, d2] }
  | _ => none }
def FnSeatingWrongFalsely : Prop := fnSeatingRow.holds Try.pinned (OpenSpec.ofChange fnSeatingWrong)

/-- 'laws.FnExactSeatingMake': WHATEVER THE INPUT: true; the input reads as it did. -/
def fnExactSeatingMakeSpec : ChangeSpec := { name := "fnExactSeatingMake", fn := fun _ => fun
  | [d1, d2] => { results := [.lit (.bool true)], args := [d1, d2] }
  | _ => none }
def fnExactSeatingMakeRow : OpenClaim := { program := "ytkknfhabfmpogaa", sum := "2acfcdba4b3697a38bc19a46837b98bba9d1881fd4a7e6d02409e42af27e25d3", func := "loop.example/mailcoaches/laws.FnExactSeatingMake", spec := "fnExactSeatingMake", unfollowed := true, recurses := true, apart := false }
def FnExactSeatingMakeSaid : Prop := fnExactSeatingMakeRow.holds Try.pinned (OpenSpec.ofChange fnExactSeatingMakeSpec)

/-- ITS FALSE NEIGHBOUR: 'it returns false'. Refute it at one input. -/
def fnExactSeatingMakeWrong : ChangeSpec := { name := "fnExactSeatingMake", fn := fun _ => fun
  | [d1, d2] => { results := [.lit (.bool false)], args := [d1, d2] }
  | _ => none }
def FnExactSeatingMakeWrongFalsely : Prop := fnExactSeatingMakeRow.holds Try.pinned (OpenSpec.ofChange fnExactSeatingMakeWrong)

/-- 'laws.FnSeatingMake': WHATEVER THE INPUT: true; the input reads as it did. -/
def fnSeatingMakeSpec : ChangeSpec := { name := "fnSeatingMake", fn := fun _ => fun
  | [d] => { results := [.lit (.bool true)], args := [d] }
  | _ => none }
def fnSeatingMakeRow : OpenClaim := { program := "ytkknfhabfmpogaa", sum := "2acfcdba4b3697a38bc19a46837b98bba9d1881fd4a7e6d02409e42af27e25d3", func := "loop.example/mailcoaches/laws.FnSeatingMake", spec := "fnSeatingMake", unfollowed := true, recurses := true, apart := false }
def FnSeatingMakeSaid : Prop := fnSeatingMakeRow.holds Try.pinned (OpenSpec.ofChange fnSeatingMakeSpec)

/-- ITS FALSE NEIGHBOUR: 'it returns false'. Refute it at one input. -/
def fnSeatingMakeWrong : ChangeSpec := { name := "fnSeatingMake", fn := fun _ => fun
  | [d] => { results := [.lit (.bool false)], args := [d] }
  | _ => none }
def FnSeatingMakeWrongFalsely : Prop := fnSeatingMakeRow.holds Try.pinned (OpenSpec.ofChange fnSeatingMakeWrong)

/-- 'laws.FnSeatsCancel': WHATEVER THE INPUT: true; the input reads as it did. -/
def fnSeatsCancelSpec : ChangeSpec := { name := "fnSeatsCancel", fn := fun _ => fun
  | [d] => { results := [.lit (.bool true)], args := [d] }
  | _ => none }
def fnSeatsCancelRow : OpenClaim := { program := "ytkknfhabfmpogaa", sum := "2acfcdba4b3697a38bc19a46837b98bba9d1881fd4a7e6d02409e42af27e25d3", func := "loop.example/mailcoaches/laws.FnSeatsCancel", spec := "fnSeatsCancel", unfollowed := true, recurses := true, apart := false }
def FnSeatsCancelSaid : Prop := fnSeatsCancelRow.holds Try.pinned (OpenSpec.ofChange fnSeatsCancelSpec)

/-- ITS FALSE NEIGHBOUR: 'it returns false'. Refute it at one input. -/
def fnSeatsCancelWrong : ChangeSpec := { name := "fnSeatsCancel", fn := fun _ => fun
  | [d] => { results := [.lit (.bool false)], args := [d] }
  | _ => none }
def FnSeatsCancelWrongFalsely : Prop := fnSeatsCancelRow.holds Try.pinned (OpenSpec.ofChange fnSeatsCancelWrong)

/- THE SECOND FORM. 'bulk': how many values and letters a reading holds, each counted each time it is reached (what is shared counts as often as it is met; a slice's spare places count too). A statement '..UptoSaid' is the law's where the arguments, and the package variables that the reading takes, are together of bulk at most 1048576: NARROWER than '..Said'. Prove '..Said' where nothing that the law and all that it calls make is longer than what came in: it says more and counts as full. Else prove '..UptoSaid'. A law counts once. -/
mutual
def uptoBulk {H : Type} : DataW H → Nat
  | .lit (.string bytes) => bytes.length + 1
  | .lit _ => 1
  | .nil => 1
  | .ptr d => uptoBulk d + 1
  | .slice elems spare => uptoBulkAll elems + uptoBulkAll spare + 1
  | .agg parts => uptoBulkAll parts + 1
  | .iface _ d => uptoBulk d + 1
  | .map entries => uptoBulkEntries entries + 1
  | .held _ => 1
def uptoBulkAll {H : Type} : List (DataW H) → Nat
  | [] => 0
  | d :: r => uptoBulk d + uptoBulkAll r
def uptoBulkEntries {H : Type} : List (Lit × DataW H) → Nat
  | [] => 0
  | x :: r => uptoBulkEntry x + uptoBulkEntries r
def uptoBulkEntry {H : Type} : Lit × DataW H → Nat
  | (.string bytes, d) => bytes.length + uptoBulk d + 1
  | (_, d) => uptoBulk d + 1
 end
def uptoSmall : (H : Type) → List (DataW H) → Bool := fun _ ds => decide (uptoBulkAll ds ≤ 1048576)
def OpenSpec.upto (s : _root_.Go.ChangeSpec) : _root_.Go.OpenSpec := { _root_.Go.OpenSpec.ofChange s with cond := some uptoSmall }

/-- 'laws.FnBookings', WHERE WHAT IT READS IS OF BULK AT MOST 1048576: true; the input reads as it did. -/
def fnBookingsUptoRow : OpenClaim := { program := "ytkknfhabfmpogaa", sum := "2acfcdba4b3697a38bc19a46837b98bba9d1881fd4a7e6d02409e42af27e25d3", func := "loop.example/mailcoaches/laws.FnBookings", spec := "fnBookings", unfollowed := true, recurses := true, apart := false, narrowed := true }
def FnBookingsUptoSaid : Prop := fnBookingsUptoRow.holds Try.pinned (OpenSpec.upto fnBookingsSpec)

/-- 'laws.FnExactSeatingValid', WHERE WHAT IT READS IS OF BULK AT MOST 1048576: true; the input reads as it did. -/
def fnExactSeatingValidUptoRow : OpenClaim := { program := "ytkknfhabfmpogaa", sum := "2acfcdba4b3697a38bc19a46837b98bba9d1881fd4a7e6d02409e42af27e25d3", func := "loop.example/mailcoaches/laws.FnExactSeatingValid", spec := "fnExactSeatingValid", unfollowed := true, recurses := true, apart := false, narrowed := true }
def FnExactSeatingValidUptoSaid : Prop := fnExactSeatingValidUptoRow.holds Try.pinned (OpenSpec.upto fnExactSeatingValidSpec)

/-- 'laws.FnSeating', WHERE WHAT IT READS IS OF BULK AT MOST 1048576: true; the input reads as it did. -/
def fnSeatingUptoRow : OpenClaim := { program := "ytkknfhabfmpogaa", sum := "2acfcdba4b3697a38bc19a46837b98bba9d1881fd4a7e6d02409e42af27e25d3", func := "loop.example/mailcoaches/laws.FnSeating", spec := "fnSeating", unfollowed := true, recurses := true, apart := false, narrowed := true }
def FnSeatingUptoSaid : Prop := fnSeatingUptoRow.holds Try.pinned (OpenSpec.upto fnSeatingSpec)

/-- 'laws.FnExactSeatingMake', WHERE WHAT IT READS IS OF BULK AT MOST 1048576: true; the input reads as it did. -/
def fnExactSeatingMakeUptoRow : OpenClaim := { program := "ytkknfhabfmpogaa", sum := "2acfcdba4b3697a38bc19a46837b98bba9d1881fd4a7e6d02409e42af27e25d3", func := "loop.example/mailcoaches/laws.FnExactSeatingMake", spec := "fnExactSeatingMake", unfollowed := true, recurses := true, apart := false, narrowed := true }
def FnExactSeatingMakeUptoSaid : Prop := fnExactSeatingMakeUptoRow.holds Try.pinned (OpenSpec.upto fnExactSeatingMakeSpec)

/-- 'laws.FnSeatingMake', WHERE WHAT IT READS IS OF BULK AT MOST 1048576: true; the input reads as it did. -/
def fnSeatingMakeUptoRow : OpenClaim := { program := "ytkknfhabfmpogaa", sum := "2acfcdba4b3697a38bc19a46837b98bba9d1881fd4a7e6d02409e42af27e25d3", func := "loop.example/mailcoaches/laws.FnSeatingMake", spec := "fnSeatingMake", unfollowed := true, recurses := true, apart := false, narrowed := true }
def FnSeatingMakeUptoSaid : Prop := fnSeatingMakeUptoRow.holds Try.pinned (OpenSpec.upto fnSeatingMakeSpec)

/-- 'laws.FnSeatsCancel', WHERE WHAT IT READS IS OF BULK AT MOST 1048576: true; the input reads as it did. -/
def fnSeatsCancelUptoRow : OpenClaim := { program := "ytkknfhabfmpogaa", sum := "2acfcdba4b3697a38bc19a46837b98bba9d1881fd4a7e6d02409e42af27e25d3", func := "loop.example/mailcoaches/laws.FnSeatsCancel", spec := "fnSeatsCancel", unfollowed := true, recurses := true, apart := false, narrowed := true }
def FnSeatsCancelUptoSaid : Prop := fnSeatsCancelUptoRow.holds Try.pinned (OpenSpec.upto fnSeatsCancelSpec)

end Rows
end Go.Proofs.Ytkknfhabfmpogaa
