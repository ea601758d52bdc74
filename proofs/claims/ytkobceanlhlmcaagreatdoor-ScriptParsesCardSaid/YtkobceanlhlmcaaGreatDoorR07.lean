/- Part of the proof that card_holds ends in: the closed run of the whole store, piece by piece. -/
import Derived.Test.YtkobceanlhlmcaaGreatDoorB13
import Derived.Test.YtkobceanlhlmcaaGreatDoorB14
set_option linter.all false
section
namespace Go.Ev
open Go.Proofs
set_option maxRecDepth 100000
theorem rp3 (r2 : MemOk Tryz.prog 212 rM2) : MemOk Tryz.prog 82 rM3 := runS_mem (l := (212, exMemos [rM2]) :: topL) (consOk (exMemos_ok (mCons r2 (mNil))) (topL_ok)) (by decide +kernel) (by decide +kernel)
theorem rp7 : MemOk Tryz.prog 62 rM7 := runS_mem (l := topL) (topL_ok) (by decide +kernel) (by decide +kernel)
theorem rp9 (r8 : MemOk Tryz.prog 212 rM8) : MemOk Tryz.prog 82 rM9 := runS_mem (l := (212, exMemos [rM8]) :: topL) (consOk (exMemos_ok (mCons r8 (mNil))) (topL_ok)) (by decide +kernel) (by decide +kernel)
theorem rp28 : MemOk Tryz.prog 212 rM28 := runS_mem (l := topL) (topL_ok) (by decide +kernel) (by decide +kernel)
theorem rp32 (r31 : MemOk Tryz.prog 212 rM31) : MemOk Tryz.prog 82 rM32 := runS_mem (l := (212, exMemos [rM31]) :: topL) (consOk (exMemos_ok (mCons r31 (mNil))) (topL_ok)) (by decide +kernel) (by decide +kernel)
end Go.Ev
end
