/- Part of the proof that card_holds ends in: the closed run of the whole store, piece by piece. -/
import Derived.Test.YtkobceanlhlmcaaGreatDoorB13
import Derived.Test.YtkobceanlhlmcaaGreatDoorB14
set_option linter.all false
section
namespace Go.Ev
open Go.Proofs
set_option maxRecDepth 100000
theorem rp2 : MemOk Tryz.prog 212 rM2 := runS_mem (l := topL) (topL_ok) (by decide +kernel) (by decide +kernel)
theorem rp11 (r10 : MemOk Tryz.prog 332 rM10) : MemOk Tryz.prog 212 rM11 := runS_mem (l := (332, exMemos [rM10]) :: topL) (consOk (exMemos_ok (mCons r10 (mNil))) (topL_ok)) (by decide +kernel) (by decide +kernel)
theorem rp14 : MemOk Tryz.prog 212 rM14 := runS_mem (l := topL) (topL_ok) (by decide +kernel) (by decide +kernel)
theorem rp26 (r25 : MemOk Tryz.prog 212 rM25) : MemOk Tryz.prog 82 rM26 := runS_mem (l := (212, exMemos [rM25]) :: topL) (consOk (exMemos_ok (mCons r25 (mNil))) (topL_ok)) (by decide +kernel) (by decide +kernel)
end Go.Ev
end
