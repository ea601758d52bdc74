/- Part of the proof that card_holds ends in: the closed run of the whole store, piece by piece. -/
import Derived.Test.YtkobceanlhlmcaaGreatDoorB13
import Derived.Test.YtkobceanlhlmcaaGreatDoorB14
set_option linter.all false
section
namespace Go.Ev
open Go.Proofs
set_option maxRecDepth 100000
theorem rp4 (r1 : MemOk Tryz.prog 119 rM1) (r3 : MemOk Tryz.prog 82 rM3) : MemOk Tryz.prog 19 rM4 := runS_mem (l := (119, exMemos [rM1]) :: (82, exMemos [rM3]) :: topL) (consOk (exMemos_ok (mCons r1 (mNil))) (consOk (exMemos_ok (mCons r3 (mNil))) (topL_ok))) (by decide +kernel) (by decide +kernel)
theorem rp18 (r16 : MemOk Tryz.prog 332 rM16) (r17 : MemOk Tryz.prog 333 rM17) : MemOk Tryz.prog 212 rM18 := runS_mem (l := (332, exMemos [rM16]) :: (333, exMemos [rM17]) :: topL) (consOk (exMemos_ok (mCons r16 (mNil))) (consOk (exMemos_ok (mCons r17 (mNil))) (topL_ok))) (by decide +kernel) (by decide +kernel)
theorem rp23 : MemOk Tryz.prog 332 rM23 := runS_mem (l := topL) (topL_ok) (by decide +kernel) (by decide +kernel)
theorem rp29 (r28 : MemOk Tryz.prog 212 rM28) : MemOk Tryz.prog 82 rM29 := runS_mem (l := (212, exMemos [rM28]) :: topL) (consOk (exMemos_ok (mCons r28 (mNil))) (topL_ok)) (by decide +kernel) (by decide +kernel)
theorem rp30 : MemOk Tryz.prog 332 rM30 := runS_mem (l := topL) (topL_ok) (by decide +kernel) (by decide +kernel)
end Go.Ev
end
