/- Part of the proof that card_holds ends in: the closed run of the whole store, piece by piece. -/
import Derived.Test.YtkobceanlhlmcaaGreatDoorR00
import Derived.Test.YtkobceanlhlmcaaGreatDoorR01
import Derived.Test.YtkobceanlhlmcaaGreatDoorR02
import Derived.Test.YtkobceanlhlmcaaGreatDoorR03
import Derived.Test.YtkobceanlhlmcaaGreatDoorR04
import Derived.Test.YtkobceanlhlmcaaGreatDoorR05
import Derived.Test.YtkobceanlhlmcaaGreatDoorR06
import Derived.Test.YtkobceanlhlmcaaGreatDoorR07
import Derived.Test.YtkobceanlhlmcaaGreatDoorR08
import Derived.Test.YtkobceanlhlmcaaGreatDoorR09
import Derived.Test.YtkobceanlhlmcaaGreatDoorR10
import Derived.Test.YtkobceanlhlmcaaGreatDoorR11
set_option linter.all false
section
namespace Go.Ev
open Go.Proofs
set_option maxRecDepth 100000
theorem rm0 : MemOk Tryz.prog 5 rM0 := rp0
theorem rm1 : MemOk Tryz.prog 119 rM1 := rp1
theorem rm2 : MemOk Tryz.prog 212 rM2 := rp2
theorem rm3 : MemOk Tryz.prog 82 rM3 := rp3 rm2
theorem rm4 : MemOk Tryz.prog 19 rM4 := rp4 rm1 rm3
theorem rm5 : MemOk Tryz.prog 19 rM5 := rp5
theorem rm6 : MemOk Tryz.prog 19 rM6 := rp6
theorem rm7 : MemOk Tryz.prog 62 rM7 := rp7
theorem rm8 : MemOk Tryz.prog 212 rM8 := rp8
theorem rm9 : MemOk Tryz.prog 82 rM9 := rp9 rm8
theorem rm10 : MemOk Tryz.prog 332 rM10 := rp10
theorem rm11 : MemOk Tryz.prog 212 rM11 := rp11 rm10
theorem rm12 : MemOk Tryz.prog 82 rM12 := rp12 rm11
theorem rm13 : MemOk Tryz.prog 108 rM13 := rp13
theorem rm14 : MemOk Tryz.prog 212 rM14 := rp14
theorem rm15 : MemOk Tryz.prog 82 rM15 := rp15 rm14
theorem rm16 : MemOk Tryz.prog 332 rM16 := rp16
theorem rm17 : MemOk Tryz.prog 333 rM17 := rp17
theorem rm18 : MemOk Tryz.prog 212 rM18 := rp18 rm16 rm17
theorem rm19 : MemOk Tryz.prog 82 rM19 := rp19 rm18
theorem rm20 : MemOk Tryz.prog 108 rM20 := rp20
theorem rm21 : MemOk Tryz.prog 212 rM21 := rp21
theorem rm22 : MemOk Tryz.prog 82 rM22 := rp22 rm21
theorem rm23 : MemOk Tryz.prog 332 rM23 := rp23
theorem rm24 : MemOk Tryz.prog 333 rM24 := rp24
theorem rm25 : MemOk Tryz.prog 212 rM25 := rp25 rm23 rm24
theorem rm26 : MemOk Tryz.prog 82 rM26 := rp26 rm25
theorem rm27 : MemOk Tryz.prog 108 rM27 := rp27
theorem rm28 : MemOk Tryz.prog 212 rM28 := rp28
theorem rm29 : MemOk Tryz.prog 82 rM29 := rp29 rm28
theorem rm30 : MemOk Tryz.prog 332 rM30 := rp30
theorem rm31 : MemOk Tryz.prog 212 rM31 := rp31 rm30
theorem rm32 : MemOk Tryz.prog 82 rM32 := rp32 rm31
theorem rm33 : MemOk Tryz.prog 108 rM33 := rp33
theorem rm34 : MemOk Tryz.prog 212 rM34 := rp34
theorem rm35 : MemOk Tryz.prog 82 rM35 := rp35 rm34
theorem rm36 : MemOk Tryz.prog 536 rM36 := rp36
theorem rm37 : MemOk Tryz.prog 495 rM37 := rp37
theorem rm38 : MemOk Tryz.prog 500 rM38 := rp38
theorem rm39 : MemOk Tryz.prog 538 rM39 := rp39
theorem rm40 : MemOk Tryz.prog 501 rM40 := rp40
theorem rm41 : MemOk Tryz.prog 501 rM41 := rp41
theorem rm42 : MemOk Tryz.prog 550 rM42 := rp42
theorem rm43 : MemOk Tryz.prog 502 rM43 := rp43 rm41 rm42
theorem rm44 : MemOk Tryz.prog 484 rM44 := rp44 rm36 rm37 rm38 rm39 rm40 rm43
theorem rm45 : MemOk Tryz.prog 332 rM45 := rp45 rm44
theorem rm46 : MemOk Tryz.prog 333 rM46 := rp46
theorem rm47 : MemOk Tryz.prog 212 rM47 := rp47 rm45 rm46
theorem rm48 : MemOk Tryz.prog 82 rM48 := rp48 rm47
theorem rm49 : MemOk Tryz.prog 108 rM49 := rp49
theorem rm50 : MemOk Tryz.prog 19 rM50 := rp50 rm7 rm9 rm12 rm13 rm15 rm19 rm20 rm22 rm26 rm27 rm29 rm32 rm33 rm35 rm48 rm49
theorem rm51 : MemOk Tryz.prog 19 rM51 := rp51
theorem rm52 : MemOk Tryz.prog 4 rM52 := rp52 rm0 rm4 rm5 rm6 rm50 rm51
end Go.Ev
end
section
namespace Go.Ev
open Go.Proofs Go.RowKit
set_option maxRecDepth 100000
theorem lives_any (w : World) : Calls Tryz.prog 4 #[] w fun e w' => e = .returned (.bool true) ∧ RowKit.Below w.heap.size w w' := by
  have h := runS_closed (l := (5, exMemos [rM0]) :: (19, exMemos [rM4, rM5, rM6, rM50, rM51]) :: topL) (consOk (exMemos_ok (mCons rm0 (mNil))) (consOk (exMemos_ok (mCons rm4 (mCons rm5 (mCons rm6 (mCons rm50 (mCons rm51 (mNil))))))) (topL_ok))) (f := 4) (us := []) (v := .bool true) (hu := by decide +kernel) (hv := by decide +kernel) (hrun := by decide +kernel) (h := hEmp) (K := fun v _ => eqV1 v (.bool true)) (hk := by decide +kernel) (hr := HR.empty w) (args := #[]) (ha := by first | trivial | exact .nil | constructor)
  refine h.2.mono ?_
  rintro e w' ⟨v, h', φ', x, rfl, _, hv, _, hb, hk⟩
  have : v = .bool true := eqV1_true hk
  subst this
  exact ⟨by rw [VR.bool_inv hv], hb.toBelow⟩
end Go.Ev
end
