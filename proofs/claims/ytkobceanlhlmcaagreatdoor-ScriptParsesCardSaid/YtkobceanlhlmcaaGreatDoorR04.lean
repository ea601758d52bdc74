/- Part of the proof that card_holds ends in: the closed run of the whole store, piece by piece. -/
import Derived.Test.YtkobceanlhlmcaaGreatDoorB13
import Derived.Test.YtkobceanlhlmcaaGreatDoorB14
set_option linter.all false
section
namespace Go.Ev
open Go.Proofs
set_option maxRecDepth 100000
theorem rp13 : MemOk Tryz.prog 108 rM13 := runS_mem (l := topL) (topL_ok) (by decide +kernel) (by decide +kernel)
theorem rp16 : MemOk Tryz.prog 332 rM16 := runS_mem (l := topL) (topL_ok) (by decide +kernel) (by decide +kernel)
theorem rp21 : MemOk Tryz.prog 212 rM21 := runS_mem (l := topL) (topL_ok) (by decide +kernel) (by decide +kernel)
theorem rp35 (r34 : MemOk Tryz.prog 212 rM34) : MemOk Tryz.prog 82 rM35 := runS_mem (l := (212, exMemos [rM34]) :: topL) (consOk (exMemos_ok (mCons r34 (mNil))) (topL_ok)) (by decide +kernel) (by decide +kernel)
theorem rp52 (r0 : MemOk Tryz.prog 5 rM0) (r4 : MemOk Tryz.prog 19 rM4) (r5 : MemOk Tryz.prog 19 rM5) (r6 : MemOk Tryz.prog 19 rM6) (r50 : MemOk Tryz.prog 19 rM50) (r51 : MemOk Tryz.prog 19 rM51) : MemOk Tryz.prog 4 rM52 := runS_mem (l := (5, exMemos [rM0]) :: (19, exMemos [rM4, rM5, rM6, rM50, rM51]) :: topL) (consOk (exMemos_ok (mCons r0 (mNil))) (consOk (exMemos_ok (mCons r4 (mCons r5 (mCons r6 (mCons r50 (mCons r51 (mNil))))))) (topL_ok))) (by decide +kernel) (by decide +kernel)
end Go.Ev
end
