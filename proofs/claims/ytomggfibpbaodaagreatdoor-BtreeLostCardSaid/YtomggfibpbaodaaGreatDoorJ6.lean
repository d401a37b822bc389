/-
  The closed facts of the row of 'BtreeLost'.
-/
import Derived.Test.YtomggfibpbaodaaGreatDoorJ
namespace Go.Proofs.YtomggfibpbaodaaGreatDoor
open Go
set_option maxRecDepth 100000
namespace Lost
theorem named : Tryz.prog.funcNamed "buttery/butterylaw07.BtreeLost" = some 6 := by kernel_rfl
theorem j1 : Rows.btreeLostRow.wf (OpenSpec.ofChange Rows.btreeLostSpec) = true := by kernel_rfl
theorem j5 : (Rows.btreeLostRow.inPlace == Tryz.prog.inPlace 6) = true := by kernel_rfl
theorem j6 : (Rows.btreeLostRow.unfollowed == Tryz.prog.unfollowed 6) = true := by kernel_rfl
theorem j7 : (Rows.btreeLostRow.recurses == Tryz.prog.recurses 6) = true := by kernel_rfl
theorem j8 : (Rows.btreeLostRow.named == Tryz.prog.varsNamed 6) = true := by kernel_rfl
theorem j15 : (Tryz.prog.make == some Rows.btreeLostRow.make) = true := by kernel_rfl
theorem closed : joinedFacts Tryz.prog 6 Tryz.f6 Rows.btreeLostSpec Rows.btreeLostRow = true :=
  joined_of j1 laidOut6 mapsRowed6 (by kernel_rfl) j5 j6 j7 j8 (by kernel_rfl) (by rw [keys6]; rfl) (by kernel_rfl) heard6 enter6 (by rw [lifts6]; rfl) j15 (by kernel_rfl)
theorem goes : false = Rows.btreeLostRow.goesBy Tryz.prog := by kernel_rfl
theorem wfText : Rows.btreeLostRow.wfByText (OpenSpec.ofChange Rows.btreeLostSpec) = true := by kernel_rfl
end Lost
end Go.Proofs.YtomggfibpbaodaaGreatDoor
