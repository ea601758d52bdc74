/- Part of the proof that card_holds ends in: facts on the row and the card. -/
import Derived.Test.YtkobceanlhlmcaaGreatDoorC03
import Derived.Test.YtkobceanlhlmcaaGreatDoorC04
import GoSem.ClaimGoes
set_option linter.all false
section
namespace Go.Proofs.YtkobceanlhlmcaaGreatDoor
open Go Go.ChangeShapes Go.WideShapes Go.ChangeAt Go.RowKit
set_option maxRecDepth 100000
theorem ai {a b : Bool} (h1 : a = true) (h2 : b = true) : (a && b) = true := by rw [h1, h2]; rfl
theorem closed : joinedFacts Tryz.checked.prog 3 Tryz.f3 Rows.scriptParsesSpec Rows.scriptParsesRow = true := by
  unfold joinedFacts
  exact ai (ai (ai (ai (ai (ai (ai (ai (ai (ai (ai (ai (ai (ai (ai (ai (ai (ai (ai (ai (ai (ai (ai (ai (ai (ai (ai (ai (ai (ai (ai jf0 laidOut) jf2) jf3) jf4) jf5) jf6) jf7) jf8) jf9) jf10) jf11) jf12) jf13) jf14) jf15) jf16) jf17) jf18) jf19) jf20) jf21) jf22) jf23) jf24) jf25) jf26) jf27) jf28) jf29) jf30) jf31
end Go.Proofs.YtkobceanlhlmcaaGreatDoor
end
section
namespace Go.Proofs.YtkobceanlhlmcaaGreatDoor
open Go
set_option maxRecDepth 100000
theorem go2 : Tryz.checked.prog.funcs.any Func.goes = false := by kernel_rfl
theorem go1 : (clL.any fun g => (Tryz.checked.prog.funcs[g]?).any Func.goes) = false := by
  rw [List.any_eq_false]
  intro g _ h
  cases hg : Tryz.checked.prog.funcs[g]? with
  | none => rw [hg] at h; cases h
  | some fn =>
    rw [hg] at h
    have := Array.any_eq_false.1 go2
    obtain ⟨hi, e⟩ := Array.getElem?_eq_some_iff.1 hg
    have h2 := this g hi
    rw [e] at h2
    exact h2 (by simpa using h)
theorem go3 : Tryz.checked.prog.goes 3 = false := by
  unfold Program.goes
  rw [cl, go1, go2]
  simp
theorem goNamed : Tryz.checked.prog.funcNamed "strongroom/strongroomlaw32.ScriptParses" = some 3 := by kernel_rfl
theorem ownGoes : false = Rows.scriptParsesRow.goesBy Tryz.pinned.checked.prog := by
  show false = Tryz.checked.prog.goesAt .entering "strongroom/strongroomlaw32.ScriptParses"
  unfold Program.goesAt Program.goesFrom
  rw [goNamed, Option.any_some, go3]
  rfl
end Go.Proofs.YtkobceanlhlmcaaGreatDoor
end
