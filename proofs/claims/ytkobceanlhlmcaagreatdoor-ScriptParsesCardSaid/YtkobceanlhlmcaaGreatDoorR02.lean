/- Part of the proof that card_holds ends in: the closed run of the whole store, piece by piece. -/
import Derived.Test.YtkobceanlhlmcaaGreatDoorB13
import Derived.Test.YtkobceanlhlmcaaGreatDoorB14
set_option linter.all false
section
namespace Go.Ev
open Go.Proofs
set_option maxRecDepth 100000
theorem rp10 : MemOk Tryz.prog 332 rM10 := runS_mem (l := topL) (topL_ok) (by decide +kernel) (by decide +kernel)
theorem rp38 : MemOk Tryz.prog 500 rM38 := runS_mem (l := topL) (topL_ok) (by decide +kernel) (by decide +kernel)
theorem rp42 : MemOk Tryz.prog 550 rM42 := runS_mem (l := topL) (topL_ok) (by decide +kernel) (by decide +kernel)
theorem rp43 (r41 : MemOk Tryz.prog 501 rM41) (r42 : MemOk Tryz.prog 550 rM42) : MemOk Tryz.prog 502 rM43 := runS_mem (l := (501, exMemos [rM41]) :: (550, exMemos [rM42]) :: topL) (consOk (exMemos_ok (mCons r41 (mNil))) (consOk (exMemos_ok (mCons r42 (mNil))) (topL_ok))) (by decide +kernel) (by decide +kernel)
end Go.Ev
end
