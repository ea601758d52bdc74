/- Part of the proof that card_holds ends in: facts on the row and the card. -/
import Derived.Test.YtkobceanlhlmcaaGreatDoorC06
import Derived.Test.YtkobceanlhlmcaaGreatDoorRows
import Derived.LaidByTextLater
import Derived.SevenTiedAt
import Derived.LaidSub
import Derived.LaidOnce
set_option linter.all false
section
namespace Go.Proofs.YtkobceanlhlmcaaGreatDoor
open Go
set_option maxRecDepth 100000
theorem tieF7 (os : Os) (tape : Tape) : doorLeaves Tryz.prog 19 8 33 ownLL os tape = some (ownLL.filter fun x => x.2.handleName?.isNone, (funcsListed ownLL).map (·.2.funcsOut)) := by kernel_rfl
end Go.Proofs.YtkobceanlhlmcaaGreatDoor
end
