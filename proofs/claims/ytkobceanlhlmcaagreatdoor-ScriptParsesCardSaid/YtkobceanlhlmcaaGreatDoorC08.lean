/- Proved: for every text, the program's script reader answers as the reference's does (the same errno, the same number of a bad line, the same lines with the same words), and the law's own closed run of the whole store comes out true: the seat's statement ScriptParsesCardSaid. Conditions: none beyond those that the statement itself bears (the tables first and acceptRanges of unicode/utf8 are laid as it says). -/
import Derived.Test.YtkobceanlhlmcaaGreatDoorC06
import Derived.Test.YtkobceanlhlmcaaGreatDoorC07
import Derived.Test.YtkobceanlhlmcaaGreatDoorC02
import Derived.Test.YtkobceanlhlmcaaGreatDoorC05
import Derived.Test.YtkobceanlhlmcaaGreatDoorCards
import Derived.SevenTiedAt
import Derived.SevenBuild
set_option linter.all false
section
namespace Go.Proofs.YtkobceanlhlmcaaGreatDoor
open Go Go.ChangeShapes Go.WideShapes Go.ChangeAt Go.RowKit
set_option maxRecDepth 100000
theorem ownPin : Tryz.pinned.checked.prog.pinnedFits "unicode/utf8.first" = true := by kernel_rfl
theorem ownUnsafe : Tryz.pinned.checked.prog.headLifts.contains "ownunsafe" = false := by kernel_rfl
theorem ownFits : Tryz.pinned.checked.prog.listedFits [("unicode/utf8.first", Rows.laid_unicode_utf8_first), ("unicode/utf8.acceptRanges", Rows.laid_unicode_utf8_acceptRanges)] = true := by
  unfold Program.listedFits
  rw [ownUnsafe]
  kernel_rfl
theorem ownTie : Tryz.prog.laidByTextLater [("unicode/utf8.acceptRanges", Rows.laid_unicode_utf8_acceptRanges)] [.data] true :=
  Program.laidByTextLater_by_one 19 8 33 tieF1 tieF2 tieF3 tieF4 tieF5 tieF6 tieF7
theorem ownRowTie : Rows.scriptParsesRow.laidByTextAt .later Tryz.pinned [.pinned, .data] true :=
  OpenClaim.laidByTextAt_pinned rfl rfl ownTie rfl rfl rfl rfl (fun y hy _e => by
    simp only [Rows.scriptParsesRow, List.zip_cons_cons, List.zip_nil_right, List.mem_cons, List.mem_nil_iff, or_false] at hy
    rcases hy with rfl | rfl
    · exact ⟨ownPin, by kernel_rfl⟩
    · cases _e) ownFits
theorem row_holds : Rows.ScriptParsesSaid :=
  OpenClaim.holds_of_wide 3 Tryz.f3 rfl rfl rfl rfl rfl rfl rfl ⟨rfl, rfl, rfl, rfl, rfl⟩ rfl rfl rfl rfl rfl (by kernel_rfl) Tryz.func3 closed
    (of_decide_eq_true (by kernel_rfl)) (by unfold Func.isWrapper; first | (rw [if_pos (by decide +kernel)]; kernel_rfl) | (rw [if_neg (by decide +kernel)]; exact ⟨rfl, rfl⟩))
    (fun os started H enc _ => lifted os started H enc)
theorem ownWf : Rows.scriptParsesRow.wfByText (OpenSpec.ofChange Rows.scriptParsesSpec) = true := by kernel_rfl
theorem ownMain : Tryz.pinned.checked.prog.mainIs = some (true, ("35c3841a105d20a9ae118497db5838523854f661b155fb372995933ffff26f74" : String).toList) := by kernel_rfl
theorem ownLooks : true = Tryz.pinned.checked.prog.looks [] := by kernel_rfl
theorem card_holds : Rows.ScriptParsesCardSaid :=
  Claim7.holds_tied_plain_at .later [] [.pinned, .data] true (true, "35c3841a105d20a9ae118497db5838523854f661b155fb372995933ffff26f74") true
    row_holds (fun _ h => by cases h) ownWf (fun _ h => by cases h) ownRowTie rfl ⟨rfl, rfl⟩ ownMain rfl
    (fun f fn hf hfn => by
      obtain rfl : f = 3 := Option.some.inj ((show Tryz.prog.funcNamed "strongroom/strongroomlaw32.ScriptParses" = some 3 by kernel_rfl).symm.trans hf) |>.symm
      obtain rfl : fn = Tryz.f3 := (Option.some.inj (Tryz.func3.symm.trans hfn)).symm
      exact ⟨ownLooks, fun j t ht => by
        rw [Tryz.params3] at ht
        have h9 : t = 9 := by
          rcases j with _ | j
          · simpa using ht.symm
          · simp at ht
        subst h9
        exact (show Tryz.prog.wantsStandIn 9 = false by kernel_rfl)⟩)
    ownGoes
end Go.Proofs.YtkobceanlhlmcaaGreatDoor
end
