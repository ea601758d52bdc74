/- Part of the proof that card_holds ends in: the closed run of the whole store, piece by piece. -/
import Derived.Test.YtkobceanlhlmcaaGreatDoorB13
import Derived.Test.YtkobceanlhlmcaaGreatDoorB14
set_option linter.all false
section
namespace Go.Ev
open Go.Proofs
set_option maxRecDepth 100000
theorem rp17 : MemOk Tryz.prog 333 rM17 := runS_mem (l := topL) (topL_ok) (by decide +kernel) (by decide +kernel)
theorem rp24 : MemOk Tryz.prog 333 rM24 := runS_mem (l := topL) (topL_ok) (by decide +kernel) (by decide +kernel)
theorem rp37 : MemOk Tryz.prog 495 rM37 := runS_mem (l := topL) (topL_ok) (by decide +kernel) (by decide +kernel)
theorem rp40 : MemOk Tryz.prog 501 rM40 := runS_mem (l := topL) (topL_ok) (by decide +kernel) (by decide +kernel)
end Go.Ev
end
