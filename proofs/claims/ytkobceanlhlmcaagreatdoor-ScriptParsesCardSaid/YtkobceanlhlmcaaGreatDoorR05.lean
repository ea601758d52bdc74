/- Part of the proof that card_holds ends in: the closed run of the whole store, piece by piece. -/
import Derived.Test.YtkobceanlhlmcaaGreatDoorB13
import Derived.Test.YtkobceanlhlmcaaGreatDoorB14
set_option linter.all false
section
namespace Go.Ev
open Go.Proofs
set_option maxRecDepth 100000
theorem rp0 : MemOk Tryz.prog 5 rM0 := runS_mem (l := topL) (topL_ok) (by decide +kernel) (by decide +kernel)
theorem rp22 (r21 : MemOk Tryz.prog 212 rM21) : MemOk Tryz.prog 82 rM22 := runS_mem (l := (212, exMemos [rM21]) :: topL) (consOk (exMemos_ok (mCons r21 (mNil))) (topL_ok)) (by decide +kernel) (by decide +kernel)
theorem rp33 : MemOk Tryz.prog 108 rM33 := runS_mem (l := topL) (topL_ok) (by decide +kernel) (by decide +kernel)
theorem rp34 : MemOk Tryz.prog 212 rM34 := runS_mem (l := topL) (topL_ok) (by decide +kernel) (by decide +kernel)
theorem rp45 (r44 : MemOk Tryz.prog 484 rM44) : MemOk Tryz.prog 332 rM45 := runS_mem (l := (484, exMemos [rM44]) :: topL) (consOk (exMemos_ok (mCons r44 (mNil))) (topL_ok)) (by decide +kernel) (by decide +kernel)
end Go.Ev
end
