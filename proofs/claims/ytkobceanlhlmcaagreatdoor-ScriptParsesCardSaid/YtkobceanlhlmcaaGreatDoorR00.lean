/- Part of the proof that card_holds ends in: the closed run of the whole store, piece by piece. -/
import Derived.Test.YtkobceanlhlmcaaGreatDoorB13
import Derived.Test.YtkobceanlhlmcaaGreatDoorB14
set_option linter.all false
section
namespace Go.Ev
open Go.Proofs
set_option maxRecDepth 100000
theorem rp1 : MemOk Tryz.prog 119 rM1 := runS_mem (l := topL) (topL_ok) (by decide +kernel) (by decide +kernel)
theorem rp15 (r14 : MemOk Tryz.prog 212 rM14) : MemOk Tryz.prog 82 rM15 := runS_mem (l := (212, exMemos [rM14]) :: topL) (consOk (exMemos_ok (mCons r14 (mNil))) (topL_ok)) (by decide +kernel) (by decide +kernel)
theorem rp44 (r36 : MemOk Tryz.prog 536 rM36) (r37 : MemOk Tryz.prog 495 rM37) (r38 : MemOk Tryz.prog 500 rM38) (r39 : MemOk Tryz.prog 538 rM39) (r40 : MemOk Tryz.prog 501 rM40) (r43 : MemOk Tryz.prog 502 rM43) : MemOk Tryz.prog 484 rM44 := runS_mem (l := (536, exMemos [rM36]) :: (495, exMemos [rM37]) :: (500, exMemos [rM38]) :: (538, exMemos [rM39]) :: (501, exMemos [rM40]) :: (502, exMemos [rM43]) :: topL) (consOk (exMemos_ok (mCons r36 (mNil))) (consOk (exMemos_ok (mCons r37 (mNil))) (consOk (exMemos_ok (mCons r38 (mNil))) (consOk (exMemos_ok (mCons r39 (mNil))) (consOk (exMemos_ok (mCons r40 (mNil))) (consOk (exMemos_ok (mCons r43 (mNil))) (topL_ok))))))) (by decide +kernel) (by decide +kernel)
theorem rp46 : MemOk Tryz.prog 333 rM46 := runS_mem (l := topL) (topL_ok) (by decide +kernel) (by decide +kernel)
end Go.Ev
end
