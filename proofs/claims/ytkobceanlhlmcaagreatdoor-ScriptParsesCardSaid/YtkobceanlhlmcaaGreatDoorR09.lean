/- Part of the proof that card_holds ends in: the closed run of the whole store, piece by piece. -/
import Derived.Test.YtkobceanlhlmcaaGreatDoorB13
import Derived.Test.YtkobceanlhlmcaaGreatDoorB14
set_option linter.all false
section
namespace Go.Ev
open Go.Proofs
set_option maxRecDepth 100000
theorem rp5 : MemOk Tryz.prog 19 rM5 := runS_mem (l := topL) (topL_ok) (by decide +kernel) (by decide +kernel)
theorem rp19 (r18 : MemOk Tryz.prog 212 rM18) : MemOk Tryz.prog 82 rM19 := runS_mem (l := (212, exMemos [rM18]) :: topL) (consOk (exMemos_ok (mCons r18 (mNil))) (topL_ok)) (by decide +kernel) (by decide +kernel)
theorem rp20 : MemOk Tryz.prog 108 rM20 := runS_mem (l := topL) (topL_ok) (by decide +kernel) (by decide +kernel)
theorem rp48 (r47 : MemOk Tryz.prog 212 rM47) : MemOk Tryz.prog 82 rM48 := runS_mem (l := (212, exMemos [rM47]) :: topL) (consOk (exMemos_ok (mCons r47 (mNil))) (topL_ok)) (by decide +kernel) (by decide +kernel)
end Go.Ev
end
