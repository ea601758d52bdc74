/- Part of the proof that card_holds ends in: facts on the row and the card. -/
import Derived.Test.YtkobceanlhlmcaaGreatDoorRows
import Derived.LaidByTextLater
import Derived.SevenTiedAt
import Derived.LaidSub
import Derived.LaidOnce
set_option linter.all false
section
namespace Go.Proofs.YtkobceanlhlmcaaGreatDoor
open Go
set_option maxRecDepth 100000
abbrev ownLL : List (String × DataW Unit) := [("unicode/utf8.acceptRanges", Rows.laid_unicode_utf8_acceptRanges)]
theorem tieF1 : Tryz.prog.worded (varsWordLater true) = true := by kernel_rfl
theorem tieF2 : Tryz.prog.worded (varsWordLater !true) = false := by kernel_rfl
theorem tieF3 : Tryz.prog.worded rootWordLater = true := by kernel_rfl
theorem tieF4 : ownLL.map (fun x => Tryz.prog.kindOfLater x.1) = [LaidKind.data].map some := by kernel_rfl
theorem tieF5 : (Tryz.prog.funcNamed "gosem.cut.vars").isSome = true := by kernel_rfl
theorem tieF6 : varsNamedLaterB Tryz.prog (varsId Tryz.prog) ownLL = true := by kernel_rfl
end Go.Proofs.YtkobceanlhlmcaaGreatDoor
end
