/- Part of the proof that card_holds ends in: facts on the row and the card. -/
import Derived.Test.YtkobceanlhlmcaaGreatDoorRows
import Derived.HandedShaped
import Derived.ProofKit
set_option linter.all false
section
namespace Go.Proofs.YtkobceanlhlmcaaGreatDoor
open Go Go.ChangeShapes Go.WideShapes Go.ChangeAt Go.RowKit
set_option maxRecDepth 100000
theorem jf0 : (Rows.scriptParsesRow.wf (OpenSpec.ofChange Rows.scriptParsesSpec)) = true := by kernel_rfl
theorem jf4 : (namedTie Tryz.checked.prog Rows.scriptParsesRow.named Rows.scriptParsesSpec.vars) = true := by kernel_rfl
theorem jf8 : (Tryz.checked.prog.stopKnobs == []) = true := by kernel_rfl
theorem jf16 : (Rows.scriptParsesRow.loops == (Tryz.f3.params.toList ++ Rows.scriptParsesSpec.plain.varTypes Tryz.checked.prog).any (Tryz.checked.prog.loopsFrom ·)) = true := by kernel_rfl
theorem jf20 : (Rows.scriptParsesRow.ifacesOut == Tryz.f3.resultTypes.toList.any (Tryz.checked.prog.ifacesRec ·)) = true := by kernel_rfl
theorem jf24 : (Tryz.checked.prog.stopsHeard) = true := by kernel_rfl
theorem jf28 : (Rows.scriptParsesRow.kinds == (if Rows.scriptParsesRow.domain.isEmpty then [] else Tryz.f3.params.toList.map fun t => match Tryz.checked.prog.underlying t with | some (.int k) => some k | _ => none)) = true := by kernel_rfl
end Go.Proofs.YtkobceanlhlmcaaGreatDoor
end
section
namespace Go.Proofs.YtkobceanlhlmcaaGreatDoor
open Go Go.ChangeShapes Go.WideShapes Go.ChangeAt Go.RowKit
set_option maxRecDepth 100000
theorem jf5 : (Rows.scriptParsesRow.stops == []) = true := by kernel_rfl
theorem jf13 : (Rows.scriptParsesRow.maps == (Tryz.f3.params.toList ++ Rows.scriptParsesSpec.plain.varTypes Tryz.checked.prog).any (Tryz.checked.prog.mapsRec ·)) = true := by kernel_rfl
theorem jf17 : (Rows.scriptParsesRow.wideKeys == (Tryz.f3.params.toList ++ Rows.scriptParsesSpec.plain.varTypes Tryz.checked.prog ++ Tryz.f3.resultTypes.toList).any (Tryz.checked.prog.wideKeysFrom ·)) = true := by kernel_rfl
theorem jf21 : (Rows.scriptParsesRow.loopsOut == Tryz.f3.resultTypes.toList.any (Tryz.checked.prog.loopsFrom ·)) = true := by kernel_rfl
theorem jf25 : (Tryz.checked.prog.mayEnter) = true := by kernel_rfl
theorem jf29 : (Rows.scriptParsesRow.pinned == Rows.scriptParsesRow.pinnedBy) = true := by kernel_rfl
end Go.Proofs.YtkobceanlhlmcaaGreatDoor
end
section
namespace Go.Proofs.YtkobceanlhlmcaaGreatDoor
open Go Go.ChangeShapes Go.WideShapes Go.ChangeAt Go.RowKit
set_option maxRecDepth 100000
theorem jf2 : (mapsRowed Tryz.checked.prog) = true := by kernel_rfl
theorem jf6 : (Tryz.checked.prog.stops == []) = true := by kernel_rfl
theorem jf14 : (Rows.scriptParsesRow.ifaces == (Tryz.f3.params.toList ++ Rows.scriptParsesSpec.plain.varTypes Tryz.checked.prog).any (Tryz.checked.prog.ifacesRec ·)) = true := by kernel_rfl
theorem jf18 : (Rows.scriptParsesSpec.vars.all (Tryz.checked.prog.varReadable ·)) = true := by kernel_rfl
theorem jf22 : (Rows.scriptParsesRow.plainKeys == Tryz.checked.prog.plainKeys) = true := by kernel_rfl
theorem jf26 : (Rows.scriptParsesRow.lifted == Tryz.checked.prog.liftsFinal) = true := by kernel_rfl
theorem jf30 : (Rows.scriptParsesRow.veiled == (Tryz.f3.params.toList ++ Rows.scriptParsesSpec.plain.varTypes Tryz.checked.prog ++ Tryz.f3.resultTypes.toList).any (Tryz.checked.prog.veiledRec ·)) = true := by kernel_rfl
end Go.Proofs.YtkobceanlhlmcaaGreatDoor
end
section
namespace Go.Proofs.YtkobceanlhlmcaaGreatDoor
open Go Go.ChangeShapes Go.WideShapes Go.ChangeAt Go.RowKit
set_option maxRecDepth 100000
theorem jf3 : (Tryz.f3.params.all (Tryz.checked.prog.readableRec ·)) = true := by kernel_rfl
theorem jf7 : (Rows.scriptParsesRow.knobs == []) = true := by kernel_rfl
theorem jf15 : (Rows.scriptParsesRow.mapsOut == Tryz.checked.prog.mapsAmong Tryz.f3.resultTypes.toList) = true := by kernel_rfl
theorem jf19 : (Tryz.f3.resultTypes.all (fun t => Tryz.checked.prog.readableRec t && decide (t < Tryz.checked.prog.types.size))) = true := by kernel_rfl
theorem jf23 : (Rows.scriptParsesRow.shortTexts.isNone) = true := by kernel_rfl
theorem jf27 : (Tryz.checked.prog.make == some Rows.scriptParsesRow.make) = true := by kernel_rfl
theorem jf31 : (Rows.scriptParsesRow.veiledFits Tryz.checked.prog Tryz.f3.params.toList (Tryz.f3.params.toList ++ Rows.scriptParsesSpec.plain.varTypes Tryz.checked.prog ++ Tryz.f3.resultTypes.toList)) = true := by kernel_rfl
end Go.Proofs.YtkobceanlhlmcaaGreatDoor
end
