/- Part of the proof that card_holds ends in: closed runs of the digest, the seal and the cipher, as tables. -/
import Derived.Test.YtkobceanlhlmcaaGreatDoorB01
import Derived.Test.YtkobceanlhlmcaaGreatDoorB02
set_option linter.all false
section
namespace Go.Ev
open Go.Proofs
set_option maxRecDepth 100000
theorem qm5 : MemOk Tryz.prog 240 qM5 := runS_mem rowL_ok (by decide +kernel) (by decide +kernel)
theorem qm12 : MemOk Tryz.prog 240 qM12 := runS_mem rowL_ok (by decide +kernel) (by decide +kernel)
theorem qm20 : MemOk Tryz.prog 240 qM20 := runS_mem rowL_ok (by decide +kernel) (by decide +kernel)
theorem qm28 : MemOk Tryz.prog 240 qM28 := runS_mem rowL_ok (by decide +kernel) (by decide +kernel)
theorem qm35 : MemOk Tryz.prog 240 qM35 := runS_mem rowL_ok (by decide +kernel) (by decide +kernel)
theorem qm42 : MemOk Tryz.prog 240 qM42 := runS_mem rowL_ok (by decide +kernel) (by decide +kernel)
theorem qm49 : MemOk Tryz.prog 240 qM49 := runS_mem rowL_ok (by decide +kernel) (by decide +kernel)
theorem qm57 : MemOk Tryz.prog 240 qM57 := runS_mem rowL_ok (by decide +kernel) (by decide +kernel)
theorem qm64 : MemOk Tryz.prog 240 qM64 := runS_mem rowL_ok (by decide +kernel) (by decide +kernel)
theorem qm72 : MemOk Tryz.prog 240 qM72 := runS_mem rowL_ok (by decide +kernel) (by decide +kernel)
theorem qm80 : MemOk Tryz.prog 240 qM80 := runS_mem rowL_ok (by decide +kernel) (by decide +kernel)
end Go.Ev
end
section
namespace Go.Ev
open Go.Proofs
set_option maxRecDepth 100000
theorem qm6 : MemOk Tryz.prog 240 qM6 := runS_mem rowL_ok (by decide +kernel) (by decide +kernel)
theorem qm14 : MemOk Tryz.prog 240 qM14 := runS_mem rowL_ok (by decide +kernel) (by decide +kernel)
theorem qm21 : MemOk Tryz.prog 240 qM21 := runS_mem rowL_ok (by decide +kernel) (by decide +kernel)
theorem qm29 : MemOk Tryz.prog 240 qM29 := runS_mem rowL_ok (by decide +kernel) (by decide +kernel)
theorem qm36 : MemOk Tryz.prog 240 qM36 := runS_mem rowL_ok (by decide +kernel) (by decide +kernel)
theorem qm43 : MemOk Tryz.prog 240 qM43 := runS_mem rowL_ok (by decide +kernel) (by decide +kernel)
theorem qm51 : MemOk Tryz.prog 240 qM51 := runS_mem rowL_ok (by decide +kernel) (by decide +kernel)
theorem qm58 : MemOk Tryz.prog 240 qM58 := runS_mem rowL_ok (by decide +kernel) (by decide +kernel)
theorem qm66 : MemOk Tryz.prog 240 qM66 := runS_mem rowL_ok (by decide +kernel) (by decide +kernel)
theorem qm73 : MemOk Tryz.prog 240 qM73 := runS_mem rowL_ok (by decide +kernel) (by decide +kernel)
theorem qm81 : MemOk Tryz.prog 240 qM81 := runS_mem rowL_ok (by decide +kernel) (by decide +kernel)
end Go.Ev
end
