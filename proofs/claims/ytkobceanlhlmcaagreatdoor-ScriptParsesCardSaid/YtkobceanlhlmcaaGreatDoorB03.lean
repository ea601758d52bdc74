/- Part of the proof that card_holds ends in: closed runs of the digest, the seal and the cipher, as tables. -/
import Derived.Test.YtkobceanlhlmcaaGreatDoorB01
import Derived.Test.YtkobceanlhlmcaaGreatDoorB02
set_option linter.all false
section
namespace Go.Ev
open Go.Proofs
set_option maxRecDepth 100000
theorem qm0 : MemOk Tryz.prog 240 qM0 := runS_mem rowL_ok (by decide +kernel) (by decide +kernel)
theorem qm7 : MemOk Tryz.prog 240 qM7 := runS_mem rowL_ok (by decide +kernel) (by decide +kernel)
theorem qm15 : MemOk Tryz.prog 240 qM15 := runS_mem rowL_ok (by decide +kernel) (by decide +kernel)
theorem qm23 : MemOk Tryz.prog 240 qM23 := runS_mem rowL_ok (by decide +kernel) (by decide +kernel)
theorem qm30 : MemOk Tryz.prog 240 qM30 := runS_mem rowL_ok (by decide +kernel) (by decide +kernel)
theorem qm37 : MemOk Tryz.prog 240 qM37 := runS_mem rowL_ok (by decide +kernel) (by decide +kernel)
theorem qm44 : MemOk Tryz.prog 240 qM44 := runS_mem rowL_ok (by decide +kernel) (by decide +kernel)
theorem qm52 : MemOk Tryz.prog 240 qM52 := runS_mem rowL_ok (by decide +kernel) (by decide +kernel)
theorem qm59 : MemOk Tryz.prog 240 qM59 := runS_mem rowL_ok (by decide +kernel) (by decide +kernel)
theorem qm67 : MemOk Tryz.prog 240 qM67 := runS_mem rowL_ok (by decide +kernel) (by decide +kernel)
theorem qm75 : MemOk Tryz.prog 240 qM75 := runS_mem rowL_ok (by decide +kernel) (by decide +kernel)
theorem qm83 : MemOk Tryz.prog 240 qM83 := runS_mem rowL_ok (by decide +kernel) (by decide +kernel)
end Go.Ev
end
section
namespace Go.Ev
open Go.Proofs
set_option maxRecDepth 100000
theorem qm1 : MemOk Tryz.prog 240 qM1 := runS_mem rowL_ok (by decide +kernel) (by decide +kernel)
theorem qm9 : MemOk Tryz.prog 240 qM9 := runS_mem rowL_ok (by decide +kernel) (by decide +kernel)
theorem qm16 : MemOk Tryz.prog 240 qM16 := runS_mem rowL_ok (by decide +kernel) (by decide +kernel)
theorem qm24 : MemOk Tryz.prog 240 qM24 := runS_mem rowL_ok (by decide +kernel) (by decide +kernel)
theorem qm32 : MemOk Tryz.prog 240 qM32 := runS_mem rowL_ok (by decide +kernel) (by decide +kernel)
theorem qm38 : MemOk Tryz.prog 240 qM38 := runS_mem rowL_ok (by decide +kernel) (by decide +kernel)
theorem qm46 : MemOk Tryz.prog 240 qM46 := runS_mem rowL_ok (by decide +kernel) (by decide +kernel)
theorem qm53 : MemOk Tryz.prog 240 qM53 := runS_mem rowL_ok (by decide +kernel) (by decide +kernel)
theorem qm61 : MemOk Tryz.prog 240 qM61 := runS_mem rowL_ok (by decide +kernel) (by decide +kernel)
theorem qm68 : MemOk Tryz.prog 240 qM68 := runS_mem rowL_ok (by decide +kernel) (by decide +kernel)
theorem qm76 : MemOk Tryz.prog 240 qM76 := runS_mem rowL_ok (by decide +kernel) (by decide +kernel)
theorem qm84 : MemOk Tryz.prog 240 qM84 := runS_mem rowL_ok (by decide +kernel) (by decide +kernel)
end Go.Ev
end
