/-
  DERIVED. GIVEN WITH THE SEED: THE CARDS: each row of YtomggfibpbaodaaGreatDoorRows.lean that lists a variable, with what it lists TIED to the program's text (the seventh form; the later family's looks); each row that meets fmt, with fmt's text TOLD by the authors' own Lean function (tested against real Go, not proved from fmt's source: count such statements apart). THE CARD IS WHAT COUNTS. Prove the row's statement (the work); the ties are given (YtomggfibpbaodaaGreatDoorTie.lean); close each card by the builder's one call (the guide's Derived/Test/ToyasCard.lean, 'card_holds'). Laid BY PROGRAM, IN A SANDBOX (cutbox-door.mjs). By AI agents, Wed Nov 11 2026. No macro, syntax, notation, axiom, sorry.
-/
import Derived.Test.YtomggfibpbaodaaGreatDoorRows
import GoSem.ClaimSeven
namespace Go.Proofs.YtomggfibpbaodaaGreatDoor
namespace Rows

/-- THE TIED CARD OF 'butterylaw07.BtreeApart'. -/
def btreeApartCard : Claim7 := { stood := { row := btreeApartRow, standIns := [], harness := (true, "805465a5a0b1907208ed896824a3fb0674517c70f39dd5b7105de857f560d101"), looks := true }, kinds := [], alts := [], laidByText := true, laidKinds := [.data, .pinned], laidTests := true, laidLooks := .later }
def BtreeApartCardSaid : Prop := Claim7.holds Tryz.pinned (.plain (OpenSpec.ofChange btreeApartSpec)) btreeApartCard

/-- THE TIED CARD OF 'butterylaw07.BtreeNames'. -/
def btreeNamesCard : Claim7 := { stood := { row := btreeNamesRow, standIns := [], harness := (true, "805465a5a0b1907208ed896824a3fb0674517c70f39dd5b7105de857f560d101"), looks := true }, kinds := [], alts := [], laidByText := true, laidKinds := [.data, .pinned], laidTests := true, laidLooks := .later }
def BtreeNamesCardSaid : Prop := Claim7.holds Tryz.pinned (.plain (OpenSpec.ofChange btreeNamesSpec)) btreeNamesCard

/-- THE TIED CARD OF 'butterylaw07.BtreePlays'. -/
def btreePlaysCard : Claim7 := { stood := { row := btreePlaysRow, standIns := [], harness := (true, "805465a5a0b1907208ed896824a3fb0674517c70f39dd5b7105de857f560d101"), looks := true }, kinds := [], alts := [], laidByText := true, laidKinds := [.data, .pinned], laidTests := true, laidLooks := .later }
def BtreePlaysCardSaid : Prop := Claim7.holds Tryz.pinned (.plain (OpenSpec.ofChange btreePlaysSpec)) btreePlaysCard

/-- THE TIED CARD OF 'butterylaw07.BtreeLost'. -/
def btreeLostCard : Claim7 := { stood := { row := btreeLostRow, standIns := [], harness := (true, "805465a5a0b1907208ed896824a3fb0674517c70f39dd5b7105de857f560d101"), looks := true }, kinds := [], alts := [], laidByText := true, laidKinds := [.data, .pinned], laidTests := true, laidLooks := .later }
def BtreeLostCardSaid : Prop := Claim7.holds Tryz.pinned (.plain (OpenSpec.ofChange btreeLostSpec)) btreeLostCard

/-- THE TIED CARD OF 'butterylaw07.BtreeCrashes'. -/
def btreeCrashesCard : Claim7 := { stood := { row := btreeCrashesRow, standIns := [], harness := (true, "805465a5a0b1907208ed896824a3fb0674517c70f39dd5b7105de857f560d101"), looks := true }, kinds := [], alts := [], laidByText := true, laidKinds := [.data, .pinned], laidTests := true, laidLooks := .later }
def BtreeCrashesCardSaid : Prop := Claim7.holds Tryz.pinned (.plain (OpenSpec.ofChange btreeCrashesSpec)) btreeCrashesCard

/-- THE TIED CARD OF 'butterylaw08.KvNames'. -/
def kvNamesCard : Claim7 := { stood := { row := kvNamesRow, standIns := [], harness := (true, "805465a5a0b1907208ed896824a3fb0674517c70f39dd5b7105de857f560d101"), looks := true }, kinds := [], alts := [], laidByText := true, laidKinds := [.data, .pinned], laidTests := true, laidLooks := .later }
def KvNamesCardSaid : Prop := Claim7.holds Tryz.pinned (.plain (OpenSpec.ofChange kvNamesSpec)) kvNamesCard

/-- THE TIED CARD OF 'butterylaw08.KvApart'. -/
def kvApartCard : Claim7 := { stood := { row := kvApartRow, standIns := [], harness := (true, "805465a5a0b1907208ed896824a3fb0674517c70f39dd5b7105de857f560d101"), looks := true }, kinds := [], alts := [], laidByText := true, laidKinds := [.data, .pinned], laidTests := true, laidLooks := .later }
def KvApartCardSaid : Prop := Claim7.holds Tryz.pinned (.plain (OpenSpec.ofChange kvApartSpec)) kvApartCard

/-- THE TIED CARD OF 'butterylaw08.KvCrashes'. -/
def kvCrashesCard : Claim7 := { stood := { row := kvCrashesRow, standIns := [], harness := (true, "805465a5a0b1907208ed896824a3fb0674517c70f39dd5b7105de857f560d101"), looks := true }, kinds := [], alts := [], laidByText := true, laidKinds := [.data, .pinned], laidTests := true, laidLooks := .later }
def KvCrashesCardSaid : Prop := Claim7.holds Tryz.pinned (.plain (OpenSpec.ofChange kvCrashesSpec)) kvCrashesCard

/-- THE TIED CARD OF 'butterylaw22.ShardSwept'. -/
def shardSweptCard : Claim7 := { stood := { row := shardSweptRow, standIns := [], harness := (true, "805465a5a0b1907208ed896824a3fb0674517c70f39dd5b7105de857f560d101"), looks := true }, kinds := [], alts := [], laidByText := true, laidKinds := [.data, .handle, .pinned], laidTests := true, laidLooks := .later }
def ShardSweptCardSaid : Prop := Claim7.holds Tryz.pinned (.plain (OpenSpec.ofChange shardSweptSpec)) shardSweptCard

/-- THE TIED CARD OF 'butterylaw22.ShardPlays'. -/
def shardPlaysCard : Claim7 := { stood := { row := shardPlaysRow, standIns := [], harness := (true, "805465a5a0b1907208ed896824a3fb0674517c70f39dd5b7105de857f560d101"), looks := true }, kinds := [], alts := [], laidByText := true, laidKinds := [.data, .handle, .pinned], laidTests := true, laidLooks := .later }
def ShardPlaysCardSaid : Prop := Claim7.holds Tryz.pinned (.plain (OpenSpec.ofChange shardPlaysSpec)) shardPlaysCard

/-- THE TIED CARD OF 'butterylaw22.ShardNames'. -/
def shardNamesCard : Claim7 := { stood := { row := shardNamesRow, standIns := [], harness := (true, "805465a5a0b1907208ed896824a3fb0674517c70f39dd5b7105de857f560d101"), looks := true }, kinds := [], alts := [], laidByText := true, laidKinds := [.data, .handle, .pinned], laidTests := true, laidLooks := .later }
def ShardNamesCardSaid : Prop := Claim7.holds Tryz.pinned (.plain (OpenSpec.ofChange shardNamesSpec)) shardNamesCard

/-- THE TIED CARD OF 'butterylaw22.ShardCrashes'. -/
def shardCrashesCard : Claim7 := { stood := { row := shardCrashesRow, standIns := [], harness := (true, "805465a5a0b1907208ed896824a3fb0674517c70f39dd5b7105de857f560d101"), looks := true }, kinds := [], alts := [], laidByText := true, laidKinds := [.data, .handle, .pinned], laidTests := true, laidLooks := .later }
def ShardCrashesCardSaid : Prop := Claim7.holds Tryz.pinned (.plain (OpenSpec.ofChange shardCrashesSpec)) shardCrashesCard

/-- THE SECOND FORM's CARD OF 'butterylaw07.BtreeApart'. -/
def btreeApartUptoCard : Claim7 := { stood := { row := btreeApartUptoRow, standIns := [], harness := (true, "805465a5a0b1907208ed896824a3fb0674517c70f39dd5b7105de857f560d101"), looks := true }, kinds := [], alts := [], laidByText := true, laidKinds := [.data, .pinned], laidTests := true, laidLooks := .later }
def BtreeApartUptoCardSaid : Prop := Claim7.holds Tryz.pinned (.plain (OpenSpec.upto btreeApartSpec)) btreeApartUptoCard

/-- THE SECOND FORM's CARD OF 'butterylaw07.BtreeNames'. -/
def btreeNamesUptoCard : Claim7 := { stood := { row := btreeNamesUptoRow, standIns := [], harness := (true, "805465a5a0b1907208ed896824a3fb0674517c70f39dd5b7105de857f560d101"), looks := true }, kinds := [], alts := [], laidByText := true, laidKinds := [.data, .pinned], laidTests := true, laidLooks := .later }
def BtreeNamesUptoCardSaid : Prop := Claim7.holds Tryz.pinned (.plain (OpenSpec.upto btreeNamesSpec)) btreeNamesUptoCard

/-- THE SECOND FORM's CARD OF 'butterylaw07.BtreePlays'. -/
def btreePlaysUptoCard : Claim7 := { stood := { row := btreePlaysUptoRow, standIns := [], harness := (true, "805465a5a0b1907208ed896824a3fb0674517c70f39dd5b7105de857f560d101"), looks := true }, kinds := [], alts := [], laidByText := true, laidKinds := [.data, .pinned], laidTests := true, laidLooks := .later }
def BtreePlaysUptoCardSaid : Prop := Claim7.holds Tryz.pinned (.plain (OpenSpec.upto btreePlaysSpec)) btreePlaysUptoCard

/-- THE SECOND FORM's CARD OF 'butterylaw07.BtreeLost'. -/
def btreeLostUptoCard : Claim7 := { stood := { row := btreeLostUptoRow, standIns := [], harness := (true, "805465a5a0b1907208ed896824a3fb0674517c70f39dd5b7105de857f560d101"), looks := true }, kinds := [], alts := [], laidByText := true, laidKinds := [.data, .pinned], laidTests := true, laidLooks := .later }
def BtreeLostUptoCardSaid : Prop := Claim7.holds Tryz.pinned (.plain (OpenSpec.upto btreeLostSpec)) btreeLostUptoCard

/-- THE SECOND FORM's CARD OF 'butterylaw07.BtreeCrashes'. -/
def btreeCrashesUptoCard : Claim7 := { stood := { row := btreeCrashesUptoRow, standIns := [], harness := (true, "805465a5a0b1907208ed896824a3fb0674517c70f39dd5b7105de857f560d101"), looks := true }, kinds := [], alts := [], laidByText := true, laidKinds := [.data, .pinned], laidTests := true, laidLooks := .later }
def BtreeCrashesUptoCardSaid : Prop := Claim7.holds Tryz.pinned (.plain (OpenSpec.upto btreeCrashesSpec)) btreeCrashesUptoCard

/-- THE SECOND FORM's CARD OF 'butterylaw08.KvNames'. -/
def kvNamesUptoCard : Claim7 := { stood := { row := kvNamesUptoRow, standIns := [], harness := (true, "805465a5a0b1907208ed896824a3fb0674517c70f39dd5b7105de857f560d101"), looks := true }, kinds := [], alts := [], laidByText := true, laidKinds := [.data, .pinned], laidTests := true, laidLooks := .later }
def KvNamesUptoCardSaid : Prop := Claim7.holds Tryz.pinned (.plain (OpenSpec.upto kvNamesSpec)) kvNamesUptoCard

/-- THE SECOND FORM's CARD OF 'butterylaw08.KvApart'. -/
def kvApartUptoCard : Claim7 := { stood := { row := kvApartUptoRow, standIns := [], harness := (true, "805465a5a0b1907208ed896824a3fb0674517c70f39dd5b7105de857f560d101"), looks := true }, kinds := [], alts := [], laidByText := true, laidKinds := [.data, .pinned], laidTests := true, laidLooks := .later }
def KvApartUptoCardSaid : Prop := Claim7.holds Tryz.pinned (.plain (OpenSpec.upto kvApartSpec)) kvApartUptoCard

/-- THE SECOND FORM's CARD OF 'butterylaw08.KvCrashes'. -/
def kvCrashesUptoCard : Claim7 := { stood := { row := kvCrashesUptoRow, standIns := [], harness := (true, "805465a5a0b1907208ed896824a3fb0674517c70f39dd5b7105de857f560d101"), looks := true }, kinds := [], alts := [], laidByText := true, laidKinds := [.data, .pinned], laidTests := true, laidLooks := .later }
def KvCrashesUptoCardSaid : Prop := Claim7.holds Tryz.pinned (.plain (OpenSpec.upto kvCrashesSpec)) kvCrashesUptoCard

/-- THE SECOND FORM's CARD OF 'butterylaw22.ShardSwept'. -/
def shardSweptUptoCard : Claim7 := { stood := { row := shardSweptUptoRow, standIns := [], harness := (true, "805465a5a0b1907208ed896824a3fb0674517c70f39dd5b7105de857f560d101"), looks := true }, kinds := [], alts := [], laidByText := true, laidKinds := [.data, .handle, .pinned], laidTests := true, laidLooks := .later }
def ShardSweptUptoCardSaid : Prop := Claim7.holds Tryz.pinned (.plain (OpenSpec.upto shardSweptSpec)) shardSweptUptoCard

/-- THE SECOND FORM's CARD OF 'butterylaw22.ShardPlays'. -/
def shardPlaysUptoCard : Claim7 := { stood := { row := shardPlaysUptoRow, standIns := [], harness := (true, "805465a5a0b1907208ed896824a3fb0674517c70f39dd5b7105de857f560d101"), looks := true }, kinds := [], alts := [], laidByText := true, laidKinds := [.data, .handle, .pinned], laidTests := true, laidLooks := .later }
def ShardPlaysUptoCardSaid : Prop := Claim7.holds Tryz.pinned (.plain (OpenSpec.upto shardPlaysSpec)) shardPlaysUptoCard

/-- THE SECOND FORM's CARD OF 'butterylaw22.ShardNames'. -/
def shardNamesUptoCard : Claim7 := { stood := { row := shardNamesUptoRow, standIns := [], harness := (true, "805465a5a0b1907208ed896824a3fb0674517c70f39dd5b7105de857f560d101"), looks := true }, kinds := [], alts := [], laidByText := true, laidKinds := [.data, .handle, .pinned], laidTests := true, laidLooks := .later }
def ShardNamesUptoCardSaid : Prop := Claim7.holds Tryz.pinned (.plain (OpenSpec.upto shardNamesSpec)) shardNamesUptoCard

/-- THE SECOND FORM's CARD OF 'butterylaw22.ShardCrashes'. -/
def shardCrashesUptoCard : Claim7 := { stood := { row := shardCrashesUptoRow, standIns := [], harness := (true, "805465a5a0b1907208ed896824a3fb0674517c70f39dd5b7105de857f560d101"), looks := true }, kinds := [], alts := [], laidByText := true, laidKinds := [.data, .handle, .pinned], laidTests := true, laidLooks := .later }
def ShardCrashesUptoCardSaid : Prop := Claim7.holds Tryz.pinned (.plain (OpenSpec.upto shardCrashesSpec)) shardCrashesUptoCard
end Rows
end Go.Proofs.YtomggfibpbaodaaGreatDoor
