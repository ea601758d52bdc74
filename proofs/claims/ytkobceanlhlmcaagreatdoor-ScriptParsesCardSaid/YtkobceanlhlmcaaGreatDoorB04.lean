/- Part of the proof that card_holds ends in: closed runs of the digest, the seal and the cipher, as tables. -/
import Derived.Test.YtkobceanlhlmcaaGreatDoorB01
import Derived.Test.YtkobceanlhlmcaaGreatDoorB02
set_option linter.all false
section
namespace Go.Ev
open Go.Proofs
set_option maxRecDepth 100000
theorem qm2 : MemOk Tryz.prog 240 qM2 := runS_mem rowL_ok (by decide +kernel) (by decide +kernel)
theorem qm10 : MemOk Tryz.prog 240 qM10 := runS_mem rowL_ok (by decide +kernel) (by decide +kernel)
theorem qm17 : MemOk Tryz.prog 240 qM17 := runS_mem rowL_ok (by decide +kernel) (by decide +kernel)
theorem qm25 : MemOk Tryz.prog 240 qM25 := runS_mem rowL_ok (by decide +kernel) (by decide +kernel)
theorem qm33 : MemOk Tryz.prog 240 qM33 := runS_mem rowL_ok (by decide +kernel) (by decide +kernel)
theorem qm40 : MemOk Tryz.prog 240 qM40 := runS_mem rowL_ok (by decide +kernel) (by decide +kernel)
theorem qm47 : MemOk Tryz.prog 240 qM47 := runS_mem rowL_ok (by decide +kernel) (by decide +kernel)
theorem qm54 : MemOk Tryz.prog 240 qM54 := runS_mem rowL_ok (by decide +kernel) (by decide +kernel)
theorem qm62 : MemOk Tryz.prog 240 qM62 := runS_mem rowL_ok (by decide +kernel) (by decide +kernel)
theorem qm70 : MemOk Tryz.prog 240 qM70 := runS_mem rowL_ok (by decide +kernel) (by decide +kernel)
theorem qm77 : MemOk Tryz.prog 240 qM77 := runS_mem rowL_ok (by decide +kernel) (by decide +kernel)
theorem qm85 : MemOk Tryz.prog 240 qM85 := runS_mem rowL_ok (by decide +kernel) (by decide +kernel)
end Go.Ev
end
section
namespace Go.Ev
open Go.Proofs
set_option maxRecDepth 100000
theorem qm3 : MemOk Tryz.prog 240 qM3 := runS_mem rowL_ok (by decide +kernel) (by decide +kernel)
theorem qm11 : MemOk Tryz.prog 240 qM11 := runS_mem rowL_ok (by decide +kernel) (by decide +kernel)
theorem qm19 : MemOk Tryz.prog 240 qM19 := runS_mem rowL_ok (by decide +kernel) (by decide +kernel)
theorem qm27 : MemOk Tryz.prog 240 qM27 := runS_mem rowL_ok (by decide +kernel) (by decide +kernel)
theorem qm34 : MemOk Tryz.prog 240 qM34 := runS_mem rowL_ok (by decide +kernel) (by decide +kernel)
theorem qm41 : MemOk Tryz.prog 240 qM41 := runS_mem rowL_ok (by decide +kernel) (by decide +kernel)
theorem qm48 : MemOk Tryz.prog 240 qM48 := runS_mem rowL_ok (by decide +kernel) (by decide +kernel)
theorem qm56 : MemOk Tryz.prog 240 qM56 := runS_mem rowL_ok (by decide +kernel) (by decide +kernel)
theorem qm63 : MemOk Tryz.prog 240 qM63 := runS_mem rowL_ok (by decide +kernel) (by decide +kernel)
theorem qm71 : MemOk Tryz.prog 240 qM71 := runS_mem rowL_ok (by decide +kernel) (by decide +kernel)
theorem qm79 : MemOk Tryz.prog 240 qM79 := runS_mem rowL_ok (by decide +kernel) (by decide +kernel)
end Go.Ev
end
