/-
  DERIVED. GIVEN WITH THE SEED: THE CARDS: each row of YtgjllminidlolaaGreatDoorRows.lean that lists a variable, with what it lists TIED to the program's text (the seventh form; the later family's looks); each row that meets fmt, with fmt's text TOLD by the authors' own Lean function (tested against real Go, not proved from fmt's source: count such statements apart). THE CARD IS WHAT COUNTS. Prove the row's statement (the work); the ties are given (YtgjllminidlolaaGreatDoorTie.lean); close each card by the builder's one call (the guide's Derived/Test/ToyasCard.lean, 'card_holds'). Laid BY PROGRAM, IN A SANDBOX (cutbox-door.mjs). By AI agents, Wed Nov 11 2026. No macro, syntax, notation, axiom, sorry.
-/
import Derived.Test.YtgjllminidlolaaGreatDoorRows
import GoSem.ClaimSeven
namespace Go.Proofs.YtgjllminidlolaaGreatDoor
namespace Rows

/-- THE TIED CARD OF 'laws.FnExecuteNone'. -/
def fnExecuteNoneCard : Claim7 := { stood := { row := fnExecuteNoneRow, standIns := [], harness := (true, "7109ba24c1c33591c65c73a740d9c1292e3cc15674cadfb114d7a39ff8340039"), looks := true }, kinds := [], alts := [], laidByText := true, laidKinds := [.data, .data, .data, .data, .pinned], laidTests := true, laidLooks := .later }
def FnExecuteNoneCardSaid : Prop := Claim7.holds Tryz.pinned (.plain (OpenSpec.ofChange fnExecuteNoneSpec)) fnExecuteNoneCard

/-- THE TIED CARD OF 'laws.FnExecuteTwice'. -/
def fnExecuteTwiceCard : Claim7 := { stood := { row := fnExecuteTwiceRow, standIns := [], harness := (true, "7109ba24c1c33591c65c73a740d9c1292e3cc15674cadfb114d7a39ff8340039"), looks := true }, kinds := [], alts := [], laidByText := true, laidKinds := [.data, .data, .data, .data, .pinned], laidTests := true, laidLooks := .later }
def FnExecuteTwiceCardSaid : Prop := Claim7.holds Tryz.pinned (.plain (OpenSpec.ofChange fnExecuteTwiceSpec)) fnExecuteTwiceCard

/-- THE TIED CARD OF 'laws.FnExecuteWhat'. -/
def fnExecuteWhatCard : Claim7 := { stood := { row := fnExecuteWhatRow, standIns := [], harness := (true, "7109ba24c1c33591c65c73a740d9c1292e3cc15674cadfb114d7a39ff8340039"), looks := true }, kinds := [], alts := [], laidByText := true, laidKinds := [.data, .data, .data, .data, .pinned], laidTests := true, laidLooks := .later }
def FnExecuteWhatCardSaid : Prop := Claim7.holds Tryz.pinned (.plain (OpenSpec.ofChange fnExecuteWhatSpec)) fnExecuteWhatCard

/-- THE TIED CARD OF 'laws.FnExecuteSeats'. -/
def fnExecuteSeatsCard : Claim7 := { stood := { row := fnExecuteSeatsRow, standIns := [], harness := (true, "7109ba24c1c33591c65c73a740d9c1292e3cc15674cadfb114d7a39ff8340039"), looks := true }, kinds := [], alts := [], laidByText := true, laidKinds := [.data, .data, .data, .data, .pinned], laidTests := true, laidLooks := .later }
def FnExecuteSeatsCardSaid : Prop := Claim7.holds Tryz.pinned (.plain (OpenSpec.ofChange fnExecuteSeatsSpec)) fnExecuteSeatsCard

/-- THE TIED CARD OF 'laws.FnExecuteWay'. -/
def fnExecuteWayCard : Claim7 := { stood := { row := fnExecuteWayRow, standIns := [], harness := (true, "7109ba24c1c33591c65c73a740d9c1292e3cc15674cadfb114d7a39ff8340039"), looks := true }, kinds := [], alts := [], laidByText := true, laidKinds := [.data, .data, .data, .data, .pinned], laidTests := true, laidLooks := .later }
def FnExecuteWayCardSaid : Prop := Claim7.holds Tryz.pinned (.plain (OpenSpec.ofChange fnExecuteWaySpec)) fnExecuteWayCard

/-- THE TIED CARD OF 'laws.FnExecutePost'. -/
def fnExecutePostCard : Claim7 := { stood := { row := fnExecutePostRow, standIns := [], harness := (true, "7109ba24c1c33591c65c73a740d9c1292e3cc15674cadfb114d7a39ff8340039"), looks := true }, kinds := [], alts := [], laidByText := true, laidKinds := [.data, .data, .data, .data, .pinned], laidTests := true, laidLooks := .later }
def FnExecutePostCardSaid : Prop := Claim7.holds Tryz.pinned (.plain (OpenSpec.ofChange fnExecutePostSpec)) fnExecutePostCard

/-- THE TIED CARD OF 'laws.FnExactExecute'. -/
def fnExactExecuteCard : Claim7 := { stood := { row := fnExactExecuteRow, standIns := [], harness := (true, "7109ba24c1c33591c65c73a740d9c1292e3cc15674cadfb114d7a39ff8340039"), looks := true }, kinds := [], alts := [], laidByText := true, laidKinds := [.data, .data, .data, .data, .pinned], laidTests := true, laidLooks := .later }
def FnExactExecuteCardSaid : Prop := Claim7.holds Tryz.pinned (.plain (OpenSpec.ofChange fnExactExecuteSpec)) fnExactExecuteCard

/-- THE SECOND FORM's CARD OF 'laws.FnExecuteNone'. -/
def fnExecuteNoneUptoCard : Claim7 := { stood := { row := fnExecuteNoneUptoRow, standIns := [], harness := (true, "7109ba24c1c33591c65c73a740d9c1292e3cc15674cadfb114d7a39ff8340039"), looks := true }, kinds := [], alts := [], laidByText := true, laidKinds := [.data, .data, .data, .data, .pinned], laidTests := true, laidLooks := .later }
def FnExecuteNoneUptoCardSaid : Prop := Claim7.holds Tryz.pinned (.plain (OpenSpec.upto fnExecuteNoneSpec)) fnExecuteNoneUptoCard

/-- THE SECOND FORM's CARD OF 'laws.FnExecuteTwice'. -/
def fnExecuteTwiceUptoCard : Claim7 := { stood := { row := fnExecuteTwiceUptoRow, standIns := [], harness := (true, "7109ba24c1c33591c65c73a740d9c1292e3cc15674cadfb114d7a39ff8340039"), looks := true }, kinds := [], alts := [], laidByText := true, laidKinds := [.data, .data, .data, .data, .pinned], laidTests := true, laidLooks := .later }
def FnExecuteTwiceUptoCardSaid : Prop := Claim7.holds Tryz.pinned (.plain (OpenSpec.upto fnExecuteTwiceSpec)) fnExecuteTwiceUptoCard

/-- THE SECOND FORM's CARD OF 'laws.FnExecuteWhat'. -/
def fnExecuteWhatUptoCard : Claim7 := { stood := { row := fnExecuteWhatUptoRow, standIns := [], harness := (true, "7109ba24c1c33591c65c73a740d9c1292e3cc15674cadfb114d7a39ff8340039"), looks := true }, kinds := [], alts := [], laidByText := true, laidKinds := [.data, .data, .data, .data, .pinned], laidTests := true, laidLooks := .later }
def FnExecuteWhatUptoCardSaid : Prop := Claim7.holds Tryz.pinned (.plain (OpenSpec.upto fnExecuteWhatSpec)) fnExecuteWhatUptoCard

/-- THE SECOND FORM's CARD OF 'laws.FnExecuteSeats'. -/
def fnExecuteSeatsUptoCard : Claim7 := { stood := { row := fnExecuteSeatsUptoRow, standIns := [], harness := (true, "7109ba24c1c33591c65c73a740d9c1292e3cc15674cadfb114d7a39ff8340039"), looks := true }, kinds := [], alts := [], laidByText := true, laidKinds := [.data, .data, .data, .data, .pinned], laidTests := true, laidLooks := .later }
def FnExecuteSeatsUptoCardSaid : Prop := Claim7.holds Tryz.pinned (.plain (OpenSpec.upto fnExecuteSeatsSpec)) fnExecuteSeatsUptoCard

/-- THE SECOND FORM's CARD OF 'laws.FnExecuteWay'. -/
def fnExecuteWayUptoCard : Claim7 := { stood := { row := fnExecuteWayUptoRow, standIns := [], harness := (true, "7109ba24c1c33591c65c73a740d9c1292e3cc15674cadfb114d7a39ff8340039"), looks := true }, kinds := [], alts := [], laidByText := true, laidKinds := [.data, .data, .data, .data, .pinned], laidTests := true, laidLooks := .later }
def FnExecuteWayUptoCardSaid : Prop := Claim7.holds Tryz.pinned (.plain (OpenSpec.upto fnExecuteWaySpec)) fnExecuteWayUptoCard

/-- THE SECOND FORM's CARD OF 'laws.FnExecutePost'. -/
def fnExecutePostUptoCard : Claim7 := { stood := { row := fnExecutePostUptoRow, standIns := [], harness := (true, "7109ba24c1c33591c65c73a740d9c1292e3cc15674cadfb114d7a39ff8340039"), looks := true }, kinds := [], alts := [], laidByText := true, laidKinds := [.data, .data, .data, .data, .pinned], laidTests := true, laidLooks := .later }
def FnExecutePostUptoCardSaid : Prop := Claim7.holds Tryz.pinned (.plain (OpenSpec.upto fnExecutePostSpec)) fnExecutePostUptoCard

/-- THE SECOND FORM's CARD OF 'laws.FnExactExecute'. -/
def fnExactExecuteUptoCard : Claim7 := { stood := { row := fnExactExecuteUptoRow, standIns := [], harness := (true, "7109ba24c1c33591c65c73a740d9c1292e3cc15674cadfb114d7a39ff8340039"), looks := true }, kinds := [], alts := [], laidByText := true, laidKinds := [.data, .data, .data, .data, .pinned], laidTests := true, laidLooks := .later }
def FnExactExecuteUptoCardSaid : Prop := Claim7.holds Tryz.pinned (.plain (OpenSpec.upto fnExactExecuteSpec)) fnExactExecuteUptoCard
end Rows
end Go.Proofs.YtgjllminidlolaaGreatDoor
