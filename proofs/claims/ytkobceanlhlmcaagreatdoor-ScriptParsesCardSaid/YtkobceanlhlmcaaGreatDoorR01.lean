/- Part of the proof that card_holds ends in: the closed run of the whole store, piece by piece. -/
import Derived.Test.YtkobceanlhlmcaaGreatDoorB13
import Derived.Test.YtkobceanlhlmcaaGreatDoorB14
set_option linter.all false
section
namespace Go.Ev
open Go.Proofs
set_option maxRecDepth 100000
theorem rp27 : MemOk Tryz.prog 108 rM27 := runS_mem (l := topL) (topL_ok) (by decide +kernel) (by decide +kernel)
theorem rp47 (r45 : MemOk Tryz.prog 332 rM45) (r46 : MemOk Tryz.prog 333 rM46) : MemOk Tryz.prog 212 rM47 := runS_mem (l := (332, exMemos [rM45]) :: (333, exMemos [rM46]) :: topL) (consOk (exMemos_ok (mCons r45 (mNil))) (consOk (exMemos_ok (mCons r46 (mNil))) (topL_ok))) (by decide +kernel) (by decide +kernel)
theorem rp49 : MemOk Tryz.prog 108 rM49 := runS_mem (l := topL) (topL_ok) (by decide +kernel) (by decide +kernel)
theorem rp51 : MemOk Tryz.prog 19 rM51 := runS_mem (l := topL) (topL_ok) (by decide +kernel) (by decide +kernel)
end Go.Ev
end
