/- Part of the proof that card_holds ends in: an evaluator of closed runs over abstract memories, and that what it says holds of the model. -/
import Derived.Test.YtkobceanlhlmcaaGreatDoorA12
set_option linter.all false
section
namespace Go.Ev
open Go.Proofs
set_option maxRecDepth 100000
theorem root0 : runE 238 [.int .u32 (.ofNat 2), .bool true] hEmp (isV (.int .u32 (.ofNat 1116352408))) = true := by decide +kernel
theorem root1 : runE 238 [.int .u32 (.ofNat 3), .bool true] hEmp (isV (.int .u32 (.ofNat 1899447441))) = true := by decide +kernel
theorem root2 : runE 238 [.int .u32 (.ofNat 5), .bool true] hEmp (isV (.int .u32 (.ofNat 3049323471))) = true := by decide +kernel
theorem root3 : runE 238 [.int .u32 (.ofNat 7), .bool true] hEmp (isV (.int .u32 (.ofNat 3921009573))) = true := by decide +kernel
theorem root4 : runE 238 [.int .u32 (.ofNat 11), .bool true] hEmp (isV (.int .u32 (.ofNat 961987163))) = true := by decide +kernel
theorem root5 : runE 238 [.int .u32 (.ofNat 13), .bool true] hEmp (isV (.int .u32 (.ofNat 1508970993))) = true := by decide +kernel
theorem root6 : runE 238 [.int .u32 (.ofNat 17), .bool true] hEmp (isV (.int .u32 (.ofNat 2453635748))) = true := by decide +kernel
theorem root7 : runE 238 [.int .u32 (.ofNat 19), .bool true] hEmp (isV (.int .u32 (.ofNat 2870763221))) = true := by decide +kernel
theorem root8 : runE 238 [.int .u32 (.ofNat 23), .bool true] hEmp (isV (.int .u32 (.ofNat 3624381080))) = true := by decide +kernel
theorem root9 : runE 238 [.int .u32 (.ofNat 29), .bool true] hEmp (isV (.int .u32 (.ofNat 310598401))) = true := by decide +kernel
theorem root10 : runE 238 [.int .u32 (.ofNat 31), .bool true] hEmp (isV (.int .u32 (.ofNat 607225278))) = true := by decide +kernel
theorem root11 : runE 238 [.int .u32 (.ofNat 37), .bool true] hEmp (isV (.int .u32 (.ofNat 1426881987))) = true := by decide +kernel
theorem root12 : runE 238 [.int .u32 (.ofNat 41), .bool true] hEmp (isV (.int .u32 (.ofNat 1925078388))) = true := by decide +kernel
theorem root13 : runE 238 [.int .u32 (.ofNat 43), .bool true] hEmp (isV (.int .u32 (.ofNat 2162078206))) = true := by decide +kernel
theorem root14 : runE 238 [.int .u32 (.ofNat 47), .bool true] hEmp (isV (.int .u32 (.ofNat 2614888103))) = true := by decide +kernel
theorem root15 : runE 238 [.int .u32 (.ofNat 53), .bool true] hEmp (isV (.int .u32 (.ofNat 3248222580))) = true := by decide +kernel
theorem root16 : runE 238 [.int .u32 (.ofNat 59), .bool true] hEmp (isV (.int .u32 (.ofNat 3835390401))) = true := by decide +kernel
theorem root17 : runE 238 [.int .u32 (.ofNat 61), .bool true] hEmp (isV (.int .u32 (.ofNat 4022224774))) = true := by decide +kernel
theorem root18 : runE 238 [.int .u32 (.ofNat 67), .bool true] hEmp (isV (.int .u32 (.ofNat 264347078))) = true := by decide +kernel
theorem root19 : runE 238 [.int .u32 (.ofNat 71), .bool true] hEmp (isV (.int .u32 (.ofNat 604807628))) = true := by decide +kernel
theorem root20 : runE 238 [.int .u32 (.ofNat 73), .bool true] hEmp (isV (.int .u32 (.ofNat 770255983))) = true := by decide +kernel
theorem root21 : runE 238 [.int .u32 (.ofNat 79), .bool true] hEmp (isV (.int .u32 (.ofNat 1249150122))) = true := by decide +kernel
theorem root22 : runE 238 [.int .u32 (.ofNat 83), .bool true] hEmp (isV (.int .u32 (.ofNat 1555081692))) = true := by decide +kernel
theorem root23 : runE 238 [.int .u32 (.ofNat 89), .bool true] hEmp (isV (.int .u32 (.ofNat 1996064986))) = true := by decide +kernel
theorem root24 : runE 238 [.int .u32 (.ofNat 97), .bool true] hEmp (isV (.int .u32 (.ofNat 2554220882))) = true := by decide +kernel
theorem root25 : runE 238 [.int .u32 (.ofNat 101), .bool true] hEmp (isV (.int .u32 (.ofNat 2821834349))) = true := by decide +kernel
theorem root26 : runE 238 [.int .u32 (.ofNat 103), .bool true] hEmp (isV (.int .u32 (.ofNat 2952996808))) = true := by decide +kernel
theorem root27 : runE 238 [.int .u32 (.ofNat 107), .bool true] hEmp (isV (.int .u32 (.ofNat 3210313671))) = true := by decide +kernel
theorem root28 : runE 238 [.int .u32 (.ofNat 109), .bool true] hEmp (isV (.int .u32 (.ofNat 3336571891))) = true := by decide +kernel
theorem root29 : runE 238 [.int .u32 (.ofNat 113), .bool true] hEmp (isV (.int .u32 (.ofNat 3584528711))) = true := by decide +kernel
theorem root30 : runE 238 [.int .u32 (.ofNat 127), .bool true] hEmp (isV (.int .u32 (.ofNat 113926993))) = true := by decide +kernel
theorem root31 : runE 238 [.int .u32 (.ofNat 131), .bool true] hEmp (isV (.int .u32 (.ofNat 338241895))) = true := by decide +kernel
theorem root32 : runE 238 [.int .u32 (.ofNat 137), .bool true] hEmp (isV (.int .u32 (.ofNat 666307205))) = true := by decide +kernel
theorem root33 : runE 238 [.int .u32 (.ofNat 139), .bool true] hEmp (isV (.int .u32 (.ofNat 773529912))) = true := by decide +kernel
theorem root34 : runE 238 [.int .u32 (.ofNat 149), .bool true] hEmp (isV (.int .u32 (.ofNat 1294757372))) = true := by decide +kernel
theorem root35 : runE 238 [.int .u32 (.ofNat 151), .bool true] hEmp (isV (.int .u32 (.ofNat 1396182291))) = true := by decide +kernel
theorem root36 : runE 238 [.int .u32 (.ofNat 157), .bool true] hEmp (isV (.int .u32 (.ofNat 1695183700))) = true := by decide +kernel
theorem root37 : runE 238 [.int .u32 (.ofNat 163), .bool true] hEmp (isV (.int .u32 (.ofNat 1986661051))) = true := by decide +kernel
theorem root38 : runE 238 [.int .u32 (.ofNat 167), .bool true] hEmp (isV (.int .u32 (.ofNat 2177026350))) = true := by decide +kernel
theorem root39 : runE 238 [.int .u32 (.ofNat 173), .bool true] hEmp (isV (.int .u32 (.ofNat 2456956037))) = true := by decide +kernel
theorem root40 : runE 238 [.int .u32 (.ofNat 179), .bool true] hEmp (isV (.int .u32 (.ofNat 2730485921))) = true := by decide +kernel
theorem root41 : runE 238 [.int .u32 (.ofNat 181), .bool true] hEmp (isV (.int .u32 (.ofNat 2820302411))) = true := by decide +kernel
theorem root42 : runE 238 [.int .u32 (.ofNat 191), .bool true] hEmp (isV (.int .u32 (.ofNat 3259730800))) = true := by decide +kernel
theorem root43 : runE 238 [.int .u32 (.ofNat 193), .bool true] hEmp (isV (.int .u32 (.ofNat 3345764771))) = true := by decide +kernel
theorem root44 : runE 238 [.int .u32 (.ofNat 197), .bool true] hEmp (isV (.int .u32 (.ofNat 3516065817))) = true := by decide +kernel
theorem root45 : runE 238 [.int .u32 (.ofNat 199), .bool true] hEmp (isV (.int .u32 (.ofNat 3600352804))) = true := by decide +kernel
theorem root46 : runE 238 [.int .u32 (.ofNat 211), .bool true] hEmp (isV (.int .u32 (.ofNat 4094571909))) = true := by decide +kernel
theorem root47 : runE 238 [.int .u32 (.ofNat 223), .bool true] hEmp (isV (.int .u32 (.ofNat 275423344))) = true := by decide +kernel
theorem root48 : runE 238 [.int .u32 (.ofNat 227), .bool true] hEmp (isV (.int .u32 (.ofNat 430227734))) = true := by decide +kernel
theorem root49 : runE 238 [.int .u32 (.ofNat 229), .bool true] hEmp (isV (.int .u32 (.ofNat 506948616))) = true := by decide +kernel
theorem root50 : runE 238 [.int .u32 (.ofNat 233), .bool true] hEmp (isV (.int .u32 (.ofNat 659060556))) = true := by decide +kernel
theorem root51 : runE 238 [.int .u32 (.ofNat 239), .bool true] hEmp (isV (.int .u32 (.ofNat 883997877))) = true := by decide +kernel
theorem root52 : runE 238 [.int .u32 (.ofNat 241), .bool true] hEmp (isV (.int .u32 (.ofNat 958139571))) = true := by decide +kernel
theorem root53 : runE 238 [.int .u32 (.ofNat 251), .bool true] hEmp (isV (.int .u32 (.ofNat 1322822218))) = true := by decide +kernel
theorem root54 : runE 238 [.int .u32 (.ofNat 257), .bool true] hEmp (isV (.int .u32 (.ofNat 1537002063))) = true := by decide +kernel
theorem root55 : runE 238 [.int .u32 (.ofNat 263), .bool true] hEmp (isV (.int .u32 (.ofNat 1747873779))) = true := by decide +kernel
theorem root56 : runE 238 [.int .u32 (.ofNat 269), .bool true] hEmp (isV (.int .u32 (.ofNat 1955562222))) = true := by decide +kernel
theorem root57 : runE 238 [.int .u32 (.ofNat 271), .bool true] hEmp (isV (.int .u32 (.ofNat 2024104815))) = true := by decide +kernel
theorem root58 : runE 238 [.int .u32 (.ofNat 277), .bool true] hEmp (isV (.int .u32 (.ofNat 2227730452))) = true := by decide +kernel
theorem root59 : runE 238 [.int .u32 (.ofNat 281), .bool true] hEmp (isV (.int .u32 (.ofNat 2361852424))) = true := by decide +kernel
theorem root60 : runE 238 [.int .u32 (.ofNat 283), .bool true] hEmp (isV (.int .u32 (.ofNat 2428436474))) = true := by decide +kernel
theorem root61 : runE 238 [.int .u32 (.ofNat 293), .bool true] hEmp (isV (.int .u32 (.ofNat 2756734187))) = true := by decide +kernel
theorem root62 : runE 238 [.int .u32 (.ofNat 307), .bool true] hEmp (isV (.int .u32 (.ofNat 3204031479))) = true := by decide +kernel
theorem root63 : runE 238 [.int .u32 (.ofNat 311), .bool true] hEmp (isV (.int .u32 (.ofNat 3329325298))) = true := by decide +kernel
theorem root64 : runE 238 [.int .u32 (.ofNat 2), .bool false] hEmp (isV (.int .u32 (.ofNat 1779033703))) = true := by decide +kernel
theorem root65 : runE 238 [.int .u32 (.ofNat 3), .bool false] hEmp (isV (.int .u32 (.ofNat 3144134277))) = true := by decide +kernel
theorem root66 : runE 238 [.int .u32 (.ofNat 5), .bool false] hEmp (isV (.int .u32 (.ofNat 1013904242))) = true := by decide +kernel
theorem root67 : runE 238 [.int .u32 (.ofNat 7), .bool false] hEmp (isV (.int .u32 (.ofNat 2773480762))) = true := by decide +kernel
theorem root68 : runE 238 [.int .u32 (.ofNat 11), .bool false] hEmp (isV (.int .u32 (.ofNat 1359893119))) = true := by decide +kernel
theorem root69 : runE 238 [.int .u32 (.ofNat 13), .bool false] hEmp (isV (.int .u32 (.ofNat 2600822924))) = true := by decide +kernel
theorem root70 : runE 238 [.int .u32 (.ofNat 17), .bool false] hEmp (isV (.int .u32 (.ofNat 528734635))) = true := by decide +kernel
theorem root71 : runE 238 [.int .u32 (.ofNat 19), .bool false] hEmp (isV (.int .u32 (.ofNat 1541459225))) = true := by decide +kernel
noncomputable def rootT : List (List V × V) := [([.int .u32 (.ofNat 2), .bool true], .int .u32 (.ofNat 1116352408)), ([.int .u32 (.ofNat 3), .bool true], .int .u32 (.ofNat 1899447441)), ([.int .u32 (.ofNat 5), .bool true], .int .u32 (.ofNat 3049323471)), ([.int .u32 (.ofNat 7), .bool true], .int .u32 (.ofNat 3921009573)), ([.int .u32 (.ofNat 11), .bool true], .int .u32 (.ofNat 961987163)), ([.int .u32 (.ofNat 13), .bool true], .int .u32 (.ofNat 1508970993)), ([.int .u32 (.ofNat 17), .bool true], .int .u32 (.ofNat 2453635748)), ([.int .u32 (.ofNat 19), .bool true], .int .u32 (.ofNat 2870763221)), ([.int .u32 (.ofNat 23), .bool true], .int .u32 (.ofNat 3624381080)), ([.int .u32 (.ofNat 29), .bool true], .int .u32 (.ofNat 310598401)), ([.int .u32 (.ofNat 31), .bool true], .int .u32 (.ofNat 607225278)), ([.int .u32 (.ofNat 37), .bool true], .int .u32 (.ofNat 1426881987)), ([.int .u32 (.ofNat 41), .bool true], .int .u32 (.ofNat 1925078388)), ([.int .u32 (.ofNat 43), .bool true], .int .u32 (.ofNat 2162078206)), ([.int .u32 (.ofNat 47), .bool true], .int .u32 (.ofNat 2614888103)), ([.int .u32 (.ofNat 53), .bool true], .int .u32 (.ofNat 3248222580)), ([.int .u32 (.ofNat 59), .bool true], .int .u32 (.ofNat 3835390401)), ([.int .u32 (.ofNat 61), .bool true], .int .u32 (.ofNat 4022224774)), ([.int .u32 (.ofNat 67), .bool true], .int .u32 (.ofNat 264347078)), ([.int .u32 (.ofNat 71), .bool true], .int .u32 (.ofNat 604807628)), ([.int .u32 (.ofNat 73), .bool true], .int .u32 (.ofNat 770255983)), ([.int .u32 (.ofNat 79), .bool true], .int .u32 (.ofNat 1249150122)), ([.int .u32 (.ofNat 83), .bool true], .int .u32 (.ofNat 1555081692)), ([.int .u32 (.ofNat 89), .bool true], .int .u32 (.ofNat 1996064986)), ([.int .u32 (.ofNat 97), .bool true], .int .u32 (.ofNat 2554220882)), ([.int .u32 (.ofNat 101), .bool true], .int .u32 (.ofNat 2821834349)), ([.int .u32 (.ofNat 103), .bool true], .int .u32 (.ofNat 2952996808)), ([.int .u32 (.ofNat 107), .bool true], .int .u32 (.ofNat 3210313671)), ([.int .u32 (.ofNat 109), .bool true], .int .u32 (.ofNat 3336571891)), ([.int .u32 (.ofNat 113), .bool true], .int .u32 (.ofNat 3584528711)), ([.int .u32 (.ofNat 127), .bool true], .int .u32 (.ofNat 113926993)), ([.int .u32 (.ofNat 131), .bool true], .int .u32 (.ofNat 338241895)), ([.int .u32 (.ofNat 137), .bool true], .int .u32 (.ofNat 666307205)), ([.int .u32 (.ofNat 139), .bool true], .int .u32 (.ofNat 773529912)), ([.int .u32 (.ofNat 149), .bool true], .int .u32 (.ofNat 1294757372)), ([.int .u32 (.ofNat 151), .bool true], .int .u32 (.ofNat 1396182291)), ([.int .u32 (.ofNat 157), .bool true], .int .u32 (.ofNat 1695183700)), ([.int .u32 (.ofNat 163), .bool true], .int .u32 (.ofNat 1986661051)), ([.int .u32 (.ofNat 167), .bool true], .int .u32 (.ofNat 2177026350)), ([.int .u32 (.ofNat 173), .bool true], .int .u32 (.ofNat 2456956037)), ([.int .u32 (.ofNat 179), .bool true], .int .u32 (.ofNat 2730485921)), ([.int .u32 (.ofNat 181), .bool true], .int .u32 (.ofNat 2820302411)), ([.int .u32 (.ofNat 191), .bool true], .int .u32 (.ofNat 3259730800)), ([.int .u32 (.ofNat 193), .bool true], .int .u32 (.ofNat 3345764771)), ([.int .u32 (.ofNat 197), .bool true], .int .u32 (.ofNat 3516065817)), ([.int .u32 (.ofNat 199), .bool true], .int .u32 (.ofNat 3600352804)), ([.int .u32 (.ofNat 211), .bool true], .int .u32 (.ofNat 4094571909)), ([.int .u32 (.ofNat 223), .bool true], .int .u32 (.ofNat 275423344)), ([.int .u32 (.ofNat 227), .bool true], .int .u32 (.ofNat 430227734)), ([.int .u32 (.ofNat 229), .bool true], .int .u32 (.ofNat 506948616)), ([.int .u32 (.ofNat 233), .bool true], .int .u32 (.ofNat 659060556)), ([.int .u32 (.ofNat 239), .bool true], .int .u32 (.ofNat 883997877)), ([.int .u32 (.ofNat 241), .bool true], .int .u32 (.ofNat 958139571)), ([.int .u32 (.ofNat 251), .bool true], .int .u32 (.ofNat 1322822218)), ([.int .u32 (.ofNat 257), .bool true], .int .u32 (.ofNat 1537002063)), ([.int .u32 (.ofNat 263), .bool true], .int .u32 (.ofNat 1747873779)), ([.int .u32 (.ofNat 269), .bool true], .int .u32 (.ofNat 1955562222)), ([.int .u32 (.ofNat 271), .bool true], .int .u32 (.ofNat 2024104815)), ([.int .u32 (.ofNat 277), .bool true], .int .u32 (.ofNat 2227730452)), ([.int .u32 (.ofNat 281), .bool true], .int .u32 (.ofNat 2361852424)), ([.int .u32 (.ofNat 283), .bool true], .int .u32 (.ofNat 2428436474)), ([.int .u32 (.ofNat 293), .bool true], .int .u32 (.ofNat 2756734187)), ([.int .u32 (.ofNat 307), .bool true], .int .u32 (.ofNat 3204031479)), ([.int .u32 (.ofNat 311), .bool true], .int .u32 (.ofNat 3329325298)), ([.int .u32 (.ofNat 2), .bool false], .int .u32 (.ofNat 1779033703)), ([.int .u32 (.ofNat 3), .bool false], .int .u32 (.ofNat 3144134277)), ([.int .u32 (.ofNat 5), .bool false], .int .u32 (.ofNat 1013904242)), ([.int .u32 (.ofNat 7), .bool false], .int .u32 (.ofNat 2773480762)), ([.int .u32 (.ofNat 11), .bool false], .int .u32 (.ofNat 1359893119)), ([.int .u32 (.ofNat 13), .bool false], .int .u32 (.ofNat 2600822924)), ([.int .u32 (.ofNat 17), .bool false], .int .u32 (.ofNat 528734635)), ([.int .u32 (.ofNat 19), .bool false], .int .u32 (.ofNat 1541459225))]
theorem rootT_all : AllT (runE) 238 rootT := ⟨root0, root1, root2, root3, root4, root5, root6, root7, root8, root9, root10, root11, root12, root13, root14, root15, root16, root17, root18, root19, root20, root21, root22, root23, root24, root25, root26, root27, root28, root29, root30, root31, root32, root33, root34, root35, root36, root37, root38, root39, root40, root41, root42, root43, root44, root45, root46, root47, root48, root49, root50, root51, root52, root53, root54, root55, root56, root57, root58, root59, root60, root61, root62, root63, root64, root65, root66, root67, root68, root69, root70, root71, trivial⟩
theorem fn238 : FnOk Tryz.prog 238 (exTab rootT) := exTab_ok (callK_ok Tryz.prog mixed (orcOf extL) (orcOf_ok extL_ok) 100000 50) (by decide) (by decide +kernel) rootT_all
end Go.Ev
end
section
namespace Go.Ev
open Go.Proofs
set_option maxRecDepth 100000
noncomputable def kList : List Nat := [1116352408, 1899447441, 3049323471, 3921009573, 961987163, 1508970993, 2453635748, 2870763221, 3624381080, 310598401, 607225278, 1426881987, 1925078388, 2162078206, 2614888103, 3248222580, 3835390401, 4022224774, 264347078, 604807628, 770255983, 1249150122, 1555081692, 1996064986, 2554220882, 2821834349, 2952996808, 3210313671, 3336571891, 3584528711, 113926993, 338241895, 666307205, 773529912, 1294757372, 1396182291, 1695183700, 1986661051, 2177026350, 2456956037, 2730485921, 2820302411, 3259730800, 3345764771, 3516065817, 3600352804, 4094571909, 275423344, 430227734, 506948616, 659060556, 883997877, 958139571, 1322822218, 1537002063, 1747873779, 1955562222, 2024104815, 2227730452, 2361852424, 2428436474, 2756734187, 3204031479, 3329325298]
noncomputable def hList : List Nat := [1779033703, 3144134277, 1013904242, 2773480762, 1359893119, 2600822924, 528734635, 1541459225]
noncomputable def mapU3 (l : List Nat) (r : List V) : List V := List.rec (motive := fun _ => List V) r (fun a _ ih => .int .u32 (.ofNat a) :: ih) l
noncomputable def hashL : List V := mapU3 kList (mapU3 hList [.nils, .int .i64 (.ofNat 0)])
noncomputable def extL2 : List (Nat × Ex) := (238, exTab rootT) :: extL
theorem extL2_ok : ∀ p ∈ extL2, FnOk Tryz.prog p.1 p.2 := by
  intro p hp
  rcases List.mem_cons.1 hp with rfl | hp
  · exact fn238
  · exact extL_ok p hp
noncomputable def runE2 (f : FuncId) (vs : List V) (h : H) (K : V → H → Bool) : Bool := callK Tryz.prog (orcOf extL2) 100000 50 f vs h K
theorem new_run : runE2 157 [] hEmp (isVar 422 74 hashL) = true := by decide +kernel
theorem fn157 : FnOk Tryz.prog 157 (exVar 422 74 hashL) := exVar_ok (callK_ok Tryz.prog mixed (orcOf extL2) (orcOf_ok extL2_ok) 100000 50) (by decide) (by decide +kernel) (by decide +kernel) new_run
end Go.Ev
end
