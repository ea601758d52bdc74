/- Part of the proof that card_holds ends in: the closed run of the whole store, piece by piece. -/
import Derived.Test.YtkobceanlhlmcaaGreatDoorB13
import Derived.Test.YtkobceanlhlmcaaGreatDoorB14
set_option linter.all false
section
namespace Go.Ev
open Go.Proofs
set_option maxRecDepth 100000
theorem rp6 : MemOk Tryz.prog 19 rM6 := runS_mem (l := topL) (topL_ok) (by decide +kernel) (by decide +kernel)
theorem rp12 (r11 : MemOk Tryz.prog 212 rM11) : MemOk Tryz.prog 82 rM12 := runS_mem (l := (212, exMemos [rM11]) :: topL) (consOk (exMemos_ok (mCons r11 (mNil))) (topL_ok)) (by decide +kernel) (by decide +kernel)
theorem rp25 (r23 : MemOk Tryz.prog 332 rM23) (r24 : MemOk Tryz.prog 333 rM24) : MemOk Tryz.prog 212 rM25 := runS_mem (l := (332, exMemos [rM23]) :: (333, exMemos [rM24]) :: topL) (consOk (exMemos_ok (mCons r23 (mNil))) (consOk (exMemos_ok (mCons r24 (mNil))) (topL_ok))) (by decide +kernel) (by decide +kernel)
theorem rp31 (r30 : MemOk Tryz.prog 332 rM30) : MemOk Tryz.prog 212 rM31 := runS_mem (l := (332, exMemos [rM30]) :: topL) (consOk (exMemos_ok (mCons r30 (mNil))) (topL_ok)) (by decide +kernel) (by decide +kernel)
theorem rp36 : MemOk Tryz.prog 536 rM36 := runS_mem (l := topL) (topL_ok) (by decide +kernel) (by decide +kernel)
end Go.Ev
end
