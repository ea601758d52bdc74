/- Part of the proof that card_holds ends in: facts on the row and the card. -/
import Derived.Test.YtkobceanlhlmcaaGreatDoorRows
import Derived.KernelRfl
set_option linter.all false
section
namespace Go.Proofs.YtkobceanlhlmcaaGreatDoor
open Go
set_option maxRecDepth 100000
noncomputable def clB (P : Program) (fuel : Nat) : List FuncId → Nat → List FuncId → List FuncId :=
  Nat.rec (motive := fun _ => List FuncId → Nat → List FuncId → List FuncId) (fun _ _ seen => seen.reverse)
    (fun _ ih todo m seen => List.rec (motive := fun _ => List FuncId) seen.reverse (fun f r _ =>
      Bool.rec (motive := fun _ => List FuncId) (ih ((P.funcs[f]?).elim [] P.leadsTo ++ r) (Nat.lor m (Nat.shiftLeft 1 f)) (f :: seen)) (ih r m seen) (Nat.beq (Nat.land (Nat.shiftRight m f) 1) 1)) todo) fuel
theorem bit_of (m f : Nat) : Nat.beq (Nat.land (Nat.shiftRight m f) 1) 1 = m.testBit f := by
  show Nat.beq ((m >>> f) &&& 1) 1 = _
  rw [Nat.testBit, Nat.and_comm 1]
  have h := Nat.and_one_is_mod (m >>> f)
  rw [h]
  rcases Nat.mod_two_eq_zero_or_one (m >>> f) with e | e <;> rw [e] <;> rfl
theorem clB_eq (P : Program) : ∀ (n : Nat) (todo seen : List FuncId) (m : Nat), (∀ f, m.testBit f = seen.contains f) → P.closureVia n todo seen = clB P n todo m seen
  | 0, todo, seen, m, _ => by cases todo <;> rfl
  | n + 1, [], seen, m, _ => rfl
  | n + 1, f :: r, seen, m, h => by
    have hb : Nat.beq (Nat.land (Nat.shiftRight m f) 1) 1 = seen.contains f := (bit_of m f).trans (h f)
    show _ = Bool.rec (motive := fun _ => List FuncId) (clB P n ((P.funcs[f]?).elim [] P.leadsTo ++ r) (Nat.lor m (Nat.shiftLeft 1 f)) (f :: seen)) (clB P n r m seen) (Nat.beq (Nat.land (Nat.shiftRight m f) 1) 1)
    rw [hb]
    unfold Program.closureVia
    cases hc : seen.contains f with
    | true => exact clB_eq P n r seen m h
    | false =>
      refine clB_eq P n _ (f :: seen) _ (fun g => ?_)
      show (m ||| (1 <<< f)).testBit g = _
      rw [Nat.testBit_or, h g, Nat.one_shiftLeft, Nat.testBit_two_pow, List.contains_cons]
      by_cases e : f = g
      · subst e; simp
      · simp [e, Ne.symm e, Bool.or_comm]
theorem closure_clB (P : Program) (f : FuncId) : P.closure f = clB P (1 + (P.funcs.toList.map fun g => (P.leadsTo g).length + 1).sum) [f] 0 [] :=
  clB_eq P _ _ _ _ (fun g => by simp)
noncomputable def nthT (tb : List (List FuncId)) : Nat → List FuncId := List.rec (motive := fun _ => Nat → List FuncId) (fun _ => []) (fun x _ ih k => Nat.rec (motive := fun _ => List FuncId) x (fun j _ => ih j) k) tb
theorem nthT_eq : ∀ (tb : List (List FuncId)) (f : Nat), nthT tb f = tb.getD f []
  | [], f => by simp [nthT]
  | x :: tb, 0 => rfl
  | x :: tb, f + 1 => by
    show nthT tb f = _
    rw [nthT_eq tb f]; rfl
noncomputable def clT (tb : List (List FuncId)) (fuel : Nat) : List FuncId → Nat → List FuncId → List FuncId :=
  Nat.rec (motive := fun _ => List FuncId → Nat → List FuncId → List FuncId) (fun _ _ seen => seen.reverse)
    (fun _ ih todo m seen => List.rec (motive := fun _ => List FuncId) seen.reverse (fun f r _ =>
      Bool.rec (motive := fun _ => List FuncId) (ih (nthT tb f ++ r) (Nat.lor m (Nat.shiftLeft 1 f)) (f :: seen)) (ih r m seen) (Nat.beq (Nat.land (Nat.shiftRight m f) 1) 1)) todo) fuel
theorem clT_eq {P : Program} {tb : List (List FuncId)} (h : ∀ f, (P.funcs[f]?).elim [] P.leadsTo = tb.getD f []) : ∀ (n : Nat) (todo : List FuncId) (m : Nat) (seen : List FuncId), clB P n todo m seen = clT tb n todo m seen
  | 0, _, _, _ => rfl
  | n + 1, [], _, _ => rfl
  | n + 1, f :: r, m, seen => by
    show Bool.rec (motive := fun _ => List FuncId) (clB P n ((P.funcs[f]?).elim [] P.leadsTo ++ r) (Nat.lor m (Nat.shiftLeft 1 f)) (f :: seen)) (clB P n r m seen) (Nat.beq (Nat.land (Nat.shiftRight m f) 1) 1) = Bool.rec (motive := fun _ => List FuncId) (clT tb n (nthT tb f ++ r) (Nat.lor m (Nat.shiftLeft 1 f)) (f :: seen)) (clT tb n r m seen) (Nat.beq (Nat.land (Nat.shiftRight m f) 1) 1)
    rw [h f, nthT_eq, clT_eq h n _ _ (f :: seen), clT_eq h n r m seen]
theorem closure_tab {P : Program} {tb : List (List FuncId)} {n : Nat} (hs : P.funcs.size = n) (ht : (List.range' 0 n).map (fun f => (P.funcs[f]?).elim [] P.leadsTo) = tb) (f : FuncId) :
    P.closure f = clT tb (1 + (tb.map fun l => l.length + 1).sum) [f] 0 [] := by
  have hl : tb.length = n := by rw [← ht]; simp
  have h : ∀ f, (P.funcs[f]?).elim [] P.leadsTo = tb.getD f [] := by
    intro f
    by_cases hf : f < n
    · rw [← ht]; simp [List.getD, hf]
    · rw [Array.getElem?_eq_none (by omega)]
      rw [List.getD, List.getElem?_eq_none (by omega)]; rfl
  have hm : (P.funcs.toList.map fun g => (P.leadsTo g).length + 1) = tb.map fun l => l.length + 1 := by
    apply List.ext_getElem?
    intro i
    simp only [List.getElem?_map]
    by_cases hi : i < n
    · have h1 := h i
      have hi2 : i < P.funcs.size := by omega
      rw [Array.getElem?_eq_getElem hi2] at h1
      have h2 : tb[i]? = some (tb.getD i []) := by
        rw [List.getD, List.getElem?_eq_getElem (by omega)]; rfl
      rw [h2, ← h1, Array.getElem?_toList, Array.getElem?_eq_getElem hi2]
      rfl
    · rw [List.getElem?_eq_none (by simp; omega), List.getElem?_eq_none (by omega)]
      rfl
  rw [closure_clB, hm, clT_eq h]
end Go.Proofs.YtkobceanlhlmcaaGreatDoor
end
section
namespace Go.Proofs.YtkobceanlhlmcaaGreatDoor
open Go
set_option maxRecDepth 100000
def ldT0 : List (List FuncId) := [[], [], [1], [4, 5, 6, 7, 4], [8], [9, 10, 11, 12], [13, 14, 15], [], [5, 16, 18, 19, 17, 20], [21], [22], [23, 24, 24, 10], [25, 26], [], [], [27, 28], [], [29], [18], [30, 31, 12, 32, 33, 32, 32, 34, 35, 36, 32], [], [37, 38, 39], [], [40, 41, 42, 43], [44], [], [45, 46, 47, 47], [], [48, 49, 50], [51], [52], [25], [18], [45, 45, 53, 54, 56, 55, 57, 58], [18, 59, 60, 58, 32, 63, 62, 61, 63, 64, 61, 65, 66, 67, 32, 32, 69, 68, 32], [70, 72, 71, 18, 18, 72, 73, 18, 45, 74, 75, 76, 18, 59, 77, 78, 18, 77, 79, 18, 80, 18, 18, 18, 81], [45, 45, 45, 70, 82], [83, 84], [83, 85, 39], [86], [], [], [87], [84, 88], [89], [], [], [9, 46], [], [], [90, 49], [], [], [91], [93, 95, 94], [], [], [96, 56, 97, 98, 99, 53, 101, 100, 47, 102], [9, 10, 10, 103], [81], [104], [105, 32, 70, 106, 82, 107, 18, 82, 107, 108, 109, 110, 110, 32, 105, 18], [111], [], [111], [69], [112, 113], [45, 115, 69, 116], [], [], [118, 117], [120, 121], [], [122, 123, 124, 125, 126, 127, 128, 129, 130], [131], [134, 133, 132], [134, 135], [], [136, 137], [136], [139, 138, 140, 141, 142, 143, 144, 138, 145], [146, 17, 17, 17, 20], [147, 148, 149, 150, 151], [], [152], [], [44, 153, 44, 154, 153, 155], [], [156], [], [], [92], [94], [], [157, 159, 158, 158, 157, 159, 158, 160, 158, 160], [161, 161], [], [93, 162], [56, 96, 56, 163, 164, 165, 167, 166, 168, 169, 168], [170, 171], [172], [], [173, 143], [174, 175], [38, 146, 39, 17, 17, 17, 84, 17, 17, 17, 20], [], [], [], [176, 177, 161, 178, 179, 180], [], [], [181, 182, 69, 183], [], [114], [184], [185, 10, 10, 10, 10, 10, 146, 17, 186, 186, 186, 20, 17, 20], [187, 188], [189, 190], [119], [56, 55, 191], [], [], [115, 192], [], [], [], [], [193], [194, 195, 195], [197, 196], [114], [198], [], [199], [200], [201, 202], [203, 204], [], [205, 206, 207, 209, 208], [], [], [], [143], [], [139], [143, 142, 143], [29, 210], [140, 211, 213, 212], [211, 217, 138, 139, 139, 115, 218, 219, 212], [220, 221, 212], [222, 223, 191], [211, 53, 176, 220, 224, 225, 226, 227, 228, 227, 229, 227, 230, 231, 232, 233, 150, 230, 231, 227, 234], [], [], [], [235], [24, 236, 24, 154, 153], [237, 239, 238], [240], [193], [241, 240], [243, 242], [182], [244], [245], [163], [169], [], [246], [244], [], [247, 248, 170, 247, 249, 248], [251, 250, 252, 250], [172, 253], [], [254], [143, 255], [256, 257, 257, 257, 258, 259, 259, 259, 258, 257, 259, 258, 257, 257, 259, 258, 257, 257, 257, 259, 257, 257, 257, 260], [261, 262, 263, 264], [102, 180, 265, 180, 266, 180, 161, 178, 180], [], [268, 267], [47], [269, 179], [270], [271, 272], [], [], [273], [274], [275, 276, 189, 277], [98, 278, 279, 279, 280, 120, 281, 218, 143, 282], [283, 284, 285, 285, 285, 286, 285, 285, 286, 287, 47, 288], [157, 158, 160], [], [47, 289], [290, 291, 292, 293, 294, 295, 296, 297, 196, 196], [298, 299], [], [300], [], [47, 303], [304, 17, 20], [], [143], [], [305, 306], [307, 250], [], [308, 250], [309], [140, 139, 138], [310, 311, 311, 312, 313], [139, 214, 141, 215, 74, 77, 216], [314], [315, 161, 139, 214, 144, 316, 214], [317, 136, 318], [139], [319, 205], [214], [138, 143], [161, 214], [321, 320]]
theorem ld0 : (List.range' 0 223).map (fun f => (Tryz.checked.prog.funcs[f]?).elim [] Tryz.checked.prog.leadsTo) = ldT0 := by kernel_rfl
end Go.Proofs.YtkobceanlhlmcaaGreatDoor
end
section
namespace Go.Proofs.YtkobceanlhlmcaaGreatDoor
open Go
set_option maxRecDepth 100000
def ldT1 : List (List FuncId) := [[], [322, 324, 323, 325], [256, 257, 257, 257, 326, 259, 327], [], [328, 226, 266], [329], [329], [], [244], [330, 331, 212], [], [228, 329], [], [], [238], [334, 335], [], [336, 336, 336, 336, 336, 336, 336, 336, 336, 336], [], [], [], [], [], [244, 320, 337], [167, 165], [], [248, 248, 338], [], [], [], [], [339, 340, 339], [341, 343, 342], [], [143], [257], [142], [344, 344, 344, 345, 345, 344, 344, 346], [172, 253, 347, 347], [338, 172, 253, 348, 347, 349, 350, 347, 347], [171], [351, 247, 352], [327, 353, 354, 315], [355, 161], [356, 195, 357, 195], [193], [358, 359, 360], [], [], [], [361, 361, 361], [], [362], [363], [365, 364], [170, 247, 170, 366], [367], [], [368, 369], [329, 370], [], [], [143], [], [285, 285, 371, 371, 285, 372, 285, 286], [373, 46, 287, 47], [374, 375], [], [376, 376], [377, 378], [379, 379, 379, 380], [], [], [], [], [], [], [301, 302, 303], [381], [182, 182, 10], [143, 142, 143], [382], [383, 247], [384, 384, 384, 385, 386], [], [], [], [387], [], [247, 388, 389, 352], [247], [385, 390, 391, 205, 392, 393, 394, 395, 392, 393, 394], [243, 242], [161, 315, 161], [], [203, 396], [206, 209, 208, 207], [], [], [369], [397, 398], [399], [398, 400], [401, 401, 401, 402, 401, 401, 402, 97], [344, 344, 97, 403, 404], [260, 353, 405, 315, 315, 353, 161, 315, 353, 353, 315, 353, 353, 315, 353, 353], [], [], [310, 332, 311, 139, 161, 214, 220, 333], [406, 74, 407, 76, 408, 409, 408, 410, 411, 412, 413, 414, 415, 417, 416, 418, 416, 419, 416, 420, 416, 77, 78, 77, 79, 80, 421], [80, 422, 215], [272, 272, 272, 423], [272], [424], [], [], [], [10, 10, 425, 10, 425], [344, 344, 344], [426, 427, 428], [], [], [], [47, 344, 344, 429], [348, 348], [350], [170], [], [], [430, 233, 432, 431, 433, 434, 435, 168, 169, 168, 167, 434, 168, 169, 168], [161], [97, 95, 161, 436, 315], [341, 343, 437], [438], [439, 440], [180, 441, 442, 183], [302, 443], [173, 444, 179, 445], [], [446, 447, 448, 449, 450], [451, 446, 452, 453, 448], [], [], [389], [454, 205], [369, 369, 369], [], [], [], [142], [457], [], [458], [], [197], [], [380], [459, 459, 459], [22], [460, 461, 462], [463], [], [], [464, 40, 41, 465, 42, 466, 43], [467], [469, 468, 247], [], [463], [205, 206], [463], [471, 470]]
theorem ld1 : (List.range' 223 171).map (fun f => (Tryz.checked.prog.funcs[f]?).elim [] Tryz.checked.prog.leadsTo) = ldT1 := by kernel_rfl
end Go.Proofs.YtkobceanlhlmcaaGreatDoor
end
section
namespace Go.Proofs.YtkobceanlhlmcaaGreatDoor
open Go
set_option maxRecDepth 100000
def ldT2 : List (List FuncId) := [[383], [206, 207, 472, 209, 208, 395, 472, 473, 393, 474], [161], [475, 322], [], [368, 322], [477, 476], [143], [142], [182, 47], [47, 46, 478], [243, 242, 242], [53, 479, 217, 138, 330, 220, 480, 480], [220, 75, 480, 302], [193], [46, 481, 135], [53, 76, 482], [478, 76, 483, 193, 484], [329, 485, 486], [487, 488, 304, 489], [329], [47, 490, 304, 491, 493, 492], [], [47, 47, 490, 134, 133, 496, 495, 302, 497, 134, 134, 498], [47, 490, 134, 133, 134, 499], [46, 490, 481, 134, 133, 500, 501, 481, 494, 481, 502], [503, 481, 133, 481, 499, 481, 501], [504, 505], [504, 506, 507, 94], [], [], [339, 339, 508], [509], [94], [510, 511], [344, 344, 344, 344], [], [512, 513], [514], [], [166], [], [315, 161, 161], [426, 428, 427], [47], [], [114], [101, 100], [173, 178], [47, 515, 195], [358, 442, 360], [268, 359, 58, 516, 517, 358, 518], [], [], [], [], [519, 447, 520, 521, 447, 522, 523, 522, 521, 452, 448, 449], [], [], [524, 447, 525, 525], [455, 206, 456, 208], [463], [], [86], [], [], [], [], [], [170], [], [87], [526, 88], [], [527, 528], [529], [383], [], [], [], [392, 473, 473, 473, 393, 393], [368, 322, 369], [530, 531], [532], [143, 143, 533], [97, 95, 94, 436, 94], [182, 97, 302], [200], [534, 535], [533], [47, 490, 536, 537, 492], [509], [], [329, 486], [539, 491], [329, 540], [541], [542], [543, 495, 134, 201, 500, 134, 499, 134, 502], [494], [544], [134, 201, 195, 134, 199], [302], [47, 47, 47, 302, 47], [161, 161, 161, 315, 161], [545, 546, 501], [547, 548, 78, 491, 79], [549, 137, 318], [501, 548, 550, 498], [46, 490, 481], [506], [507, 94], [], [161, 161, 161, 315, 161], [39], [94], [551, 552], [553], [554], [197, 555], [], [556, 557], [267, 267, 558, 559], [267, 267, 558, 560, 559], [180, 442, 442, 562, 561, 563, 564, 179, 564, 179, 565, 566, 179, 567, 568, 569, 179], [], [], [], [], [], [], [], [570, 84], [571], [197, 572], [], [573], [197, 574], [], [], [], [575, 94], [576, 539, 304], [538], [576, 539, 382, 544, 461, 577], [461, 461], [315, 161, 161, 161, 578, 315, 94], [136], [579, 580, 204], [], [382, 461, 577], [382, 461, 461, 577], [549, 542, 580, 318, 580, 396], [491], [], [136], [549, 579, 542, 137, 580, 396, 318], [], [581, 581, 581], [582], [], [583, 584, 585, 586, 587, 588, 589, 590, 555, 555], [47, 9], [591, 592], [593, 443], [596, 595, 594, 597], [598, 599, 600, 598, 302, 497, 599]]
theorem ld2 : (List.range' 394 167).map (fun f => (Tryz.checked.prog.funcs[f]?).elim [] Tryz.checked.prog.leadsTo) = ldT2 := by kernel_rfl
end Go.Proofs.YtkobceanlhlmcaaGreatDoor
end
section
namespace Go.Proofs.YtkobceanlhlmcaaGreatDoor
open Go
set_option maxRecDepth 100000
def ldT3 : List (List FuncId) := [[601], [], [518], [358, 567, 193, 442, 563], [112, 602, 69, 116, 181, 358, 563], [358, 442, 565], [], [603, 179], [358, 567, 540, 604, 179], [], [], [605, 606, 607, 608, 609, 610, 611, 612, 613, 572, 572], [], [614, 615, 616, 617, 618, 619, 620, 621, 622, 574, 574], [623], [193], [], [], [], [], [], [624, 624], [], [625, 625], [377, 378], [626, 626, 626, 627], [], [], [], [], [], [628, 629], [356, 356], [630, 631], [632], [633], [114], [302, 302], [357, 596, 635, 634], [302], [], [114], [358, 567, 636, 637, 637, 638], [568, 639, 179, 568, 358], [611], [640, 640], [377, 378], [641, 641, 641, 642], [], [611, 611, 611], [643, 643], [611, 611], [611, 611, 611, 611], [620], [644, 644], [377, 378], [645, 645, 645, 646], [], [620, 620, 620], [647, 647], [620, 620], [620, 620, 620, 620], [], [648], [], [627], [649, 649, 649], [], [], [650], [197, 651], [], [], [652, 653], [], [654, 654, 575, 655, 535, 656, 535, 657, 658], [567, 638, 638], [659, 358, 639, 179], [660], [611, 611], [642], [661, 661, 661], [], [620, 620], [646], [662, 662, 662], [], [424, 424, 424, 424], [], [], [663, 664, 665, 666, 667, 668, 669, 670, 651, 651], [], [671], [], [], [], [], [623], [533, 161, 161, 161], [442, 563, 358], [611], [620], [], [672, 672], [377, 378], [673, 673, 673, 674], [], [], [], [], [675, 675, 675], [], [674], [676, 676, 676], [], [], [], [], [], [], [], [], [], [], [], [], [], [], [], [], [], [], [], [], [], [], [], [], [205, 205, 700, 205, 206, 394, 701], [206, 207, 393, 209, 208, 700, 702, 702, 393], [383, 703], [208, 206, 208, 206, 472, 473, 702, 208, 393, 208, 701], [704], [], [], [], [], [], [], [], [], [], []]
theorem ld3 : (List.range' 561 153).map (fun f => (Tryz.checked.prog.funcs[f]?).elim [] Tryz.checked.prog.leadsTo) = ldT3 := by kernel_rfl
end Go.Proofs.YtkobceanlhlmcaaGreatDoor
end
section
namespace Go.Proofs.YtkobceanlhlmcaaGreatDoor
open Go
set_option maxRecDepth 100000
theorem ldS : Tryz.checked.prog.funcs.size = 714 := by kernel_rfl
theorem ldR : List.range' 0 714 = List.range' 0 223 ++ List.range' 223 171 ++ List.range' 394 167 ++ List.range' 561 153 := by kernel_rfl
theorem ldAll : (List.range' 0 714).map (fun f => (Tryz.checked.prog.funcs[f]?).elim [] Tryz.checked.prog.leadsTo) = ldT0 ++ ldT1 ++ ldT2 ++ ldT3 := by
  rw [ldR]
  simp only [List.map_append, ld0, ld1, ld2, ld3]
def clL : List FuncId := [3, 4, 8, 5, 9, 21, 37, 83, 84, 152, 38, 85, 39, 86, 44, 89, 153, 154, 155, 235, 10, 22, 11, 23, 40, 41, 42, 87, 43, 88, 156, 24, 236, 12, 25, 26, 45, 46, 47, 16, 18, 19, 30, 52, 31, 32, 33, 53, 91, 92, 94, 157, 237, 238, 334, 272, 423, 335, 239, 159, 193, 158, 240, 336, 424, 160, 241, 54, 93, 95, 161, 243, 242, 56, 55, 57, 96, 97, 162, 182, 98, 163, 244, 164, 245, 165, 167, 166, 169, 168, 246, 320, 337, 99, 170, 171, 247, 248, 249, 338, 101, 100, 172, 251, 250, 252, 102, 173, 253, 143, 58, 103, 174, 175, 254, 339, 340, 425, 508, 34, 59, 81, 146, 29, 51, 210, 309, 17, 20, 60, 104, 63, 62, 111, 181, 268, 267, 356, 438, 195, 289, 374, 375, 458, 357, 439, 440, 114, 184, 270, 69, 183, 269, 358, 180, 441, 442, 178, 261, 347, 348, 350, 262, 349, 263, 264, 351, 352, 430, 233, 432, 514, 431, 512, 554, 513, 197, 298, 299, 555, 583, 584, 625, 585, 377, 378, 586, 626, 627, 649, 587, 588, 589, 590, 433, 434, 435, 359, 302, 443, 515, 556, 557, 591, 592, 628, 629, 360, 444, 179, 265, 327, 344, 403, 404, 478, 533, 353, 354, 436, 315, 266, 355, 341, 343, 437, 426, 509, 428, 510, 551, 552, 581, 511, 553, 582, 624, 648, 427, 445, 516, 558, 593, 559, 596, 633, 595, 632, 594, 630, 650, 631, 651, 663, 664, 672, 665, 666, 673, 674, 676, 667, 668, 669, 670, 597, 517, 560, 598, 599, 635, 634, 652, 653, 671, 675, 600, 497, 518, 562, 561, 601, 563, 564, 567, 565, 112, 602, 116, 187, 188, 273, 361, 566, 568, 603, 636, 654, 575, 623, 655, 535, 656, 657, 658, 637, 638, 659, 639, 660, 569, 540, 578, 604, 61, 105, 70, 118, 119, 191, 278, 366, 389, 279, 367, 454, 455, 463, 206, 305, 383, 306, 384, 385, 386, 464, 465, 466, 526, 570, 456, 208, 205, 280, 120, 281, 368, 369, 218, 319, 209, 308, 207, 307, 282, 329, 370, 117, 189, 274, 190, 275, 362, 446, 447, 448, 449, 450, 519, 520, 521, 522, 523, 452, 276, 363, 451, 453, 524, 525, 277, 365, 364, 106, 82, 147, 140, 211, 139, 138, 213, 214, 314, 390, 391, 392, 393, 471, 470, 394, 395, 472, 473, 474, 141, 215, 144, 316, 74, 131, 198, 77, 216, 317, 136, 203, 204, 318, 396, 212, 310, 387, 467, 311, 312, 388, 469, 529, 468, 527, 571, 528, 572, 605, 611, 643, 606, 640, 607, 608, 641, 642, 661, 609, 610, 612, 613, 313, 148, 217, 115, 185, 271, 186, 219, 149, 220, 221, 150, 222, 321, 223, 151, 176, 255, 342, 224, 322, 324, 399, 323, 397, 475, 398, 325, 400, 477, 532, 476, 530, 573, 531, 574, 614, 620, 647, 615, 644, 616, 617, 645, 646, 662, 618, 619, 621, 622, 225, 256, 257, 326, 401, 402, 142, 259, 226, 227, 328, 260, 345, 346, 429, 405, 228, 229, 230, 231, 232, 330, 331, 332, 406, 479, 480, 407, 75, 134, 200, 133, 199, 300, 301, 381, 303, 132, 76, 135, 201, 202, 304, 382, 460, 461, 462, 408, 409, 481, 410, 482, 534, 411, 483, 484, 490, 541, 536, 576, 539, 537, 538, 544, 577, 492, 543, 495, 500, 547, 491, 542, 579, 580, 548, 78, 137, 79, 499, 545, 546, 549, 501, 502, 550, 498, 412, 485, 486, 413, 487, 488, 489, 414, 415, 493, 494, 417, 496, 416, 418, 419, 420, 503, 80, 145, 421, 504, 506, 505, 507, 333, 422, 234, 107, 108, 177, 258, 109, 110, 64, 65, 66, 113, 67, 68, 35, 72, 71, 121, 73, 122, 192, 283, 284, 285, 286, 287, 371, 372, 288, 373, 457, 123, 124, 125, 126, 127, 128, 194, 129, 196, 290, 291, 376, 292, 293, 379, 380, 459, 294, 295, 296, 297, 130, 36, 6, 13, 14, 15, 27, 28, 48, 49, 50, 90, 7]
theorem cl : Tryz.checked.prog.closure 3 = clL := (closure_tab ldS ldAll 3).trans (by kernel_rfl)
theorem jf9 : (Rows.scriptParsesRow.inPlace == Tryz.checked.prog.inPlace 3) = true := by
  unfold Program.inPlace; rw [cl]; kernel_rfl
theorem unf : Tryz.checked.prog.unfollowed 3 = true := by
  unfold Program.unfollowed; rw [cl]; kernel_rfl
theorem jf10 : (Rows.scriptParsesRow.unfollowed == Tryz.checked.prog.unfollowed 3) = true := by rw [unf]; rfl
theorem jf11 : (Rows.scriptParsesRow.recurses == Tryz.checked.prog.recurses 3) = true := by
  unfold Program.recurses; rw [unf, Bool.true_or]; rfl
theorem jf12 : (Rows.scriptParsesRow.named == Tryz.checked.prog.varsNamed 3) = true := by
  unfold Program.varsNamed; rw [cl]; kernel_rfl
end Go.Proofs.YtkobceanlhlmcaaGreatDoor
end
section
namespace Go.Proofs.YtkobceanlhlmcaaGreatDoor
open Go
set_option maxRecDepth 100000
theorem chunk_all {p : Nat → Bool} {a k : Nat} (h : (List.range' a k).all p = true) : ∀ t, a ≤ t → t < a + k → p t = true := fun t h1 h2 => List.all_eq_true.1 h t (List.mem_range'_1.2 ⟨h1, h2⟩)
theorem range_all {p : Nat → Bool} {n : Nat} (h : ∀ t, t < n → p t = true) : (List.range n).all p = true := List.all_eq_true.2 fun t ht => h t (List.mem_range.1 ht)
theorem lo0 : (List.range' 0 209).all (rowFine Tryz.checked.prog) = true := by kernel_rfl
theorem lo1 : (List.range' 209 209).all (rowFine Tryz.checked.prog) = true := by kernel_rfl
theorem lo2 : (List.range' 418 209).all (rowFine Tryz.checked.prog) = true := by kernel_rfl
theorem lo3 : (List.range' 627 209).all (rowFine Tryz.checked.prog) = true := by kernel_rfl
theorem loS : Tryz.checked.prog.types.size = 836 := by kernel_rfl
theorem loG : Tryz.checked.prog.globals.all (fun g => decide (g.type < Tryz.checked.prog.types.size)) = true := by kernel_rfl
theorem loF : Tryz.checked.prog.funcs.all (fun f => f.params.all fun t => decide (t < Tryz.checked.prog.types.size)) = true := by kernel_rfl
theorem laidOut : laidOutB Tryz.checked.prog = true := by
  unfold laidOutB
  rw [loG, loF, range_all (fun t ht => ?_)]
  · rfl
  · rw [loS] at ht
    by_cases h1 : t < 209
    · exact chunk_all lo0 t (by omega) (by omega)
    · by_cases h2 : t < 418
      · exact chunk_all lo1 t (by omega) (by omega)
      · by_cases h3 : t < 627
        · exact chunk_all lo2 t (by omega) (by omega)
        · exact chunk_all lo3 t (by omega) (by omega)
end Go.Proofs.YtkobceanlhlmcaaGreatDoor
end
