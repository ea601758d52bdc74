/- Part of the proof that card_holds ends in: the closed run of the whole store, piece by piece. -/
import Derived.Test.YtkobceanlhlmcaaGreatDoorB13
import Derived.Test.YtkobceanlhlmcaaGreatDoorB14
set_option linter.all false
section
namespace Go.Ev
open Go.Proofs
set_option maxRecDepth 100000
theorem rp8 : MemOk Tryz.prog 212 rM8 := runS_mem (l := topL) (topL_ok) (by decide +kernel) (by decide +kernel)
theorem rp39 : MemOk Tryz.prog 538 rM39 := runS_mem (l := topL) (topL_ok) (by decide +kernel) (by decide +kernel)
theorem rp41 : MemOk Tryz.prog 501 rM41 := runS_mem (l := topL) (topL_ok) (by decide +kernel) (by decide +kernel)
theorem rp50 (r7 : MemOk Tryz.prog 62 rM7) (r9 : MemOk Tryz.prog 82 rM9) (r12 : MemOk Tryz.prog 82 rM12) (r13 : MemOk Tryz.prog 108 rM13) (r15 : MemOk Tryz.prog 82 rM15) (r19 : MemOk Tryz.prog 82 rM19) (r20 : MemOk Tryz.prog 108 rM20) (r22 : MemOk Tryz.prog 82 rM22) (r26 : MemOk Tryz.prog 82 rM26) (r27 : MemOk Tryz.prog 108 rM27) (r29 : MemOk Tryz.prog 82 rM29) (r32 : MemOk Tryz.prog 82 rM32) (r33 : MemOk Tryz.prog 108 rM33) (r35 : MemOk Tryz.prog 82 rM35) (r48 : MemOk Tryz.prog 82 rM48) (r49 : MemOk Tryz.prog 108 rM49) : MemOk Tryz.prog 19 rM50 := runS_mem (l := (62, exMemos [rM7]) :: (82, exMemos [rM9, rM12, rM15, rM19, rM22, rM26, rM29, rM32, rM35, rM48]) :: (108, exMemos [rM13, rM20, rM27, rM33, rM49]) :: topL) (consOk (exMemos_ok (mCons r7 (mNil))) (consOk (exMemos_ok (mCons r9 (mCons r12 (mCons r15 (mCons r19 (mCons r22 (mCons r26 (mCons r29 (mCons r32 (mCons r35 (mCons r48 (mNil)))))))))))) (consOk (exMemos_ok (mCons r13 (mCons r20 (mCons r27 (mCons r33 (mCons r49 (mNil))))))) (topL_ok)))) (by decide +kernel) (by decide +kernel)
end Go.Ev
end
