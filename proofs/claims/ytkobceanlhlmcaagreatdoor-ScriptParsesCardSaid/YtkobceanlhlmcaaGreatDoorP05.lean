/- Part of the proof that card_holds ends in: what the script reader of the program and that of the reference return, line by line. -/
import Derived.Test.YtkobceanlhlmcaaGreatDoorP04
import Derived.StillTailTactics
import Derived.IntWalk
import Derived.Test.YtkobceanlhlmcaaGreatDoorP03
set_option linter.all false
section
namespace Go.Proofs.Parse
open Go Go.Proofs Go.RowKit
def zipIs : List UInt8 → List (List UInt8 × Bool) → Bool
  | [], [] => true
  | k :: ks, x :: xs => isL k.toNat x.1 x.2 && zipIs ks xs
  | _, _ => false
def fitsL : List (List UInt8 × Bool) → Bool
  | [] => false
  | (c, q) :: r => !q && (match shapeL c with | none => false | some sh => zipIs sh r)
def WordsAt (w : World) (g : Nat) (L : List (ByteArray × Bool)) : Prop :=
  ∀ i (hi : i < L.length), w.cell? ⟨g, 2 * i, none⟩ = some (.string (L[i]'hi).1) ∧ w.cell? ⟨g, 2 * i + 1, none⟩ = some (.bool (L[i]'hi).2)
def wl (L : List (ByteArray × Bool)) : List (List UInt8 × Bool) := L.map fun x => (x.1.data.toList, x.2)
theorem WordsAt.below {B : Nat} {w w1 : World} {g : Nat} {L : List (ByteArray × Bool)} (h : WordsAt w g L) (hb : Below B w w1) (hg : g < B) : WordsAt w1 g L :=
  fun i hi => ⟨keepC hb (h i hi).1 hg, keepC hb (h i hi).2 hg⟩
theorem shape_form (l : List UInt8) : ∃ sh, shapeS l = ⟨sh.toArray⟩ ∧ (sh = [] ∨ ∃ p ∈ shapeT, p.2 = sh) := by
  unfold shapeS
  cases h : shapeL l with
  | none => exact ⟨[], rfl, .inl rfl⟩
  | some sh =>
    refine ⟨sh, rfl, .inr ?_⟩
    unfold shapeL at h
    cases hf : shapeT.find? (fun p => p.1 == l) with
    | none => rw [hf] at h; simp at h
    | some p => rw [hf] at h; simp at h; exact ⟨p, List.mem_of_find?_eq_some hf, h⟩
theorem shape_kinds (l : List UInt8) : ∀ j (hj : j < (shapeS l).size), kindK ((shapeS l)[j]'hj).toNat := by
  obtain ⟨sh, hs, hm⟩ := shape_form l
  have key : ∀ (b : ByteArray), b = ⟨sh.toArray⟩ → ∀ j (hj : j < b.size), kindK (b[j]'hj).toNat := by
    rintro b rfl j hj
    rcases hm with rfl | ⟨p, hp, rfl⟩
    · exact absurd hj (by simp [ByteArray.size])
    · have ha : shapeT.all (fun p => p.2.all fun c => c.toNat == 120 || c.toNat == 116 || c.toNat == 48 || c.toNat == 110 || c.toNat == 112 || c.toNat == 108) = true := by decide +kernel
      have hj' : j < p.2.length := by simpa [ByteArray.size] using hj
      have h1 := List.all_eq_true.1 (List.all_eq_true.1 ha p hp) (p.2[j]) (List.getElem_mem _)
      have e : (ByteArray.mk p.2.toArray)[j] = p.2[j] := rfl
      rw [e]
      unfold kindK
      simp only [Bool.or_eq_true, beq_iff_eq] at h1
      omega
  exact key _ hs
theorem shape_size (l : List UInt8) : (shapeS l).size ≤ 4 := by
  obtain ⟨sh, hs, hm⟩ := shape_form l
  rw [hs]
  rcases hm with rfl | ⟨p, hp, rfl⟩
  · simp [ByteArray.size]
  · have ha : shapeT.all (fun p => decide (p.2.length ≤ 4)) = true := by decide +kernel
    have := List.all_eq_true.1 ha p hp
    simpa [ByteArray.size] using this
def okTo (sh : ByteArray) (L : List (ByteArray × Bool)) (k : Nat) : Prop := ∀ j (hj : j < sh.size) (hl : j + 1 < L.length), j < k → isL ((sh[j]'hj).toNat) (L[j + 1]'hl).1.data.toList (L[j + 1]'hl).2 = true
theorem zip_iff : ∀ (sh : List UInt8) (r : List (List UInt8 × Bool)), zipIs sh r = true ↔ sh.length = r.length ∧ ∀ j (h1 : j < sh.length) (h2 : j < r.length), isL (sh[j]'h1).toNat (r[j]'h2).1 (r[j]'h2).2 = true
  | [], [] => by simp [zipIs]
  | [], x :: r => by simp [zipIs]
  | k :: ks, [] => by simp [zipIs]
  | k :: ks, x :: r => by
    have ih := zip_iff ks r
    simp only [zipIs, Bool.and_eq_true, ih, List.length_cons]
    constructor
    · rintro ⟨h1, h2, h3⟩
      refine ⟨by omega, fun j hj1 hj2 => ?_⟩
      cases j with
      | zero => exact h1
      | succ j => exact h3 j (by omega) (by omega)
    · rintro ⟨h1, h2⟩
      exact ⟨h2 0 (by omega) (by omega), by omega, fun j hj1 hj2 => h2 (j + 1) (by omega) (by omega)⟩
theorem fits_yes {L : List (ByteArray × Bool)} (h0 : 0 < L.length) (hq : (L[0]'h0).2 = false) (hs : shapeOk (L[0]'h0).1.data.toList = true) (hn : L.length = (shapeS (L[0]'h0).1.data.toList).size + 1) (hk : okTo (shapeS (L[0]'h0).1.data.toList) L (shapeS (L[0]'h0).1.data.toList).size) : fitsL (wl L) = true := by
  cases L with
  | nil => simp at h0
  | cons x r =>
    simp only [List.getElem_cons_zero] at hq hs hn hk
    unfold shapeOk at hs
    simp only [wl, List.map_cons, fitsL, hq, Bool.not_false, Bool.true_and]
    unfold shapeS at hn hk
    cases h : shapeL x.1.data.toList with
    | none => rw [h] at hs; simp at hs
    | some sh =>
      simp only [h] at hn hk ⊢
      rw [zip_iff]
      have e : (ByteArray.mk sh.toArray).size = sh.length := by simp [ByteArray.size]
      refine ⟨by simp at hn; rw [List.length_map]; omega, fun j h1 h2 => ?_⟩
      have h3 := hk j (by rw [e]; exact h1) (by simp at h2 ⊢; omega) (by rw [e]; exact h1)
      have e3 : (ByteArray.mk sh.toArray)[j]'(by rw [e]; exact h1) = sh[j] := rfl
      rw [e3] at h3
      simpa using h3
theorem fits_quoted {L : List (ByteArray × Bool)} (h0 : 0 < L.length) (hq : (L[0]'h0).2 = true) : fitsL (wl L) = false := by
  cases L with
  | nil => simp at h0
  | cons x r => simp only [List.getElem_cons_zero] at hq; simp [wl, fitsL, hq]
theorem fits_none {L : List (ByteArray × Bool)} (h0 : 0 < L.length) (hs : shapeOk (L[0]'h0).1.data.toList = false) : fitsL (wl L) = false := by
  cases L with
  | nil => simp at h0
  | cons x r =>
    simp only [List.getElem_cons_zero] at hs
    unfold shapeOk at hs
    simp only [wl, List.map_cons, fitsL]
    cases h : shapeL x.1.data.toList with
    | none => simp
    | some sh => rw [h] at hs; simp at hs
theorem fits_len {L : List (ByteArray × Bool)} (h0 : 0 < L.length) (hn : L.length ≠ (shapeS (L[0]'h0).1.data.toList).size + 1) : fitsL (wl L) = false := by
  cases L with
  | nil => simp at h0
  | cons x r =>
    simp only [List.getElem_cons_zero] at hn
    simp only [wl, List.map_cons, fitsL]
    unfold shapeS at hn
    cases h : shapeL x.1.data.toList with
    | none => simp
    | some sh =>
      simp only [h] at hn ⊢
      have : zipIs sh (r.map fun x => (x.1.data.toList, x.2)) = false := by
        cases hz : zipIs sh (r.map fun x => (x.1.data.toList, x.2)) with
        | false => rfl
        | true =>
          have := ((zip_iff _ _).1 hz).1
          simp [ByteArray.size] at hn this; omega
      show (!x.2 && zipIs sh (r.map fun x => (x.1.data.toList, x.2))) = false
      rw [this]; simp
theorem fits_no {L : List (ByteArray × Bool)} (h0 : 0 < L.length) (j : Nat) (hj : j < (shapeS (L[0]'h0).1.data.toList).size) (hl : j + 1 < L.length) (h : isL ((shapeS (L[0]'h0).1.data.toList)[j]'hj).toNat (L[j + 1]'hl).1.data.toList (L[j + 1]'hl).2 = false) : fitsL (wl L) = false := by
  cases L with
  | nil => simp at h0
  | cons x r =>
    simp only [List.getElem_cons_zero, List.getElem_cons_succ] at hj h
    simp only [wl, List.map_cons, fitsL]
    cases hs : shapeL x.1.data.toList with
    | none => simp
    | some sh =>
      have e : shapeS x.1.data.toList = ⟨sh.toArray⟩ := by unfold shapeS; rw [hs]
      have : zipIs sh (r.map fun x => (x.1.data.toList, x.2)) = false := by
        cases hz : zipIs sh (r.map fun x => (x.1.data.toList, x.2)) with
        | false => rfl
        | true =>
          obtain ⟨h1, h2⟩ := (zip_iff _ _).1 hz
          have hj' : j < sh.length := by
            have := hj; rw [e] at this; simpa [ByteArray.size] using this
          have h3 := h2 j hj' (by simp at hl ⊢; omega)
          simp only [List.getElem_map] at h3
          have e2 : ((shapeS x.1.data.toList)[j]'hj) = sh[j] := by
            have : ∀ (b : ByteArray) (hb : j < b.size), b = ⟨sh.toArray⟩ → b[j]'hb = sh[j] := by
              intro b hb e; subst e; rfl
            exact this _ hj e
          rw [e2] at h
          rw [h] at h3; simp at h3
      show (!x.2 && zipIs sh (r.map fun x => (x.1.data.toList, x.2))) = false
      rw [this]; simp
end Go.Proofs.Parse
end
section
namespace Go.Proofs.Parse
open Go Go.Proofs Go.RowKit
theorem okTo_succ {sh : ByteArray} {L : List (ByteArray × Bool)} {k : Nat} (h : okTo sh L k) (hj : k < sh.size) (hl : k + 1 < L.length) (h1 : isL ((sh[k]'hj).toNat) (L[k + 1]'hl).1.data.toList (L[k + 1]'hl).2 = true) : okTo sh L (k + 1) := by
  intro j hj' hl' hjk
  by_cases e : j = k
  · subst e; exact h1
  · exact h j hj' hl' (by omega)
theorem below_drew {B : Nat} {a w : World} (h : Below B a w) : Below B a w.drew := ⟨h.os, h.tape, h.output, h.size, h.block⟩
set_option maxRecDepth 1000000 in
theorem fits_any (g cap : Nat) (L : List (ByteArray × Bool)) (m : Int) (w : World) (hm : w.cell? ⟨0, 0, none⟩ = some (.int .i64 m)) (hL : WordsAt w g L) (h0 : 0 < L.length) (hLn : L.length ≤ 1000) (hg : g < w.heap.size) :
    Calls Tryz.prog 12 #[.slice (some ⟨g, 0, none⟩) L.length cap] w fun e w' => e = .returned (.bool (fitsL (wl L))) ∧ Below w.heap.size w w' := by
  have hc0 : w.cell? ⟨g, 0, none⟩ = some (.string (L[0]'h0).1) := (hL 0 h0).1
  have hc1 : w.cell? ⟨g, 1, none⟩ = some (.bool (L[0]'h0).2) := (hL 0 h0).2
  have HL := Lib.hid hL
  have HM := Lib.hid hm
  have HG := Lib.hid hg
  clear hL hm hg
  have hl0 : ((L.length : Int) == 0) = false := by rw [beq_eq_false_iff_ne]; omega
  cases hq : (L[0]'h0).2 with
  | true =>
    rw [hq] at hc1
    have HF := Lib.hid (fits_quoted h0 hq)
    clear hq
    generalize (L[0]'h0).1 = s0 at *
    go_enter Tryz.func12, Tryz.ntmps12
    go_wp2
    go_ret
    rw [HF.out]
    exact ⟨rfl, Below.refl _ _⟩
  | false =>
    rw [hq] at hc1
    have HS := Lib.hid (shape_any (L[0]'h0).1 w)
    have hkd := Lib.hid (shape_kinds (L[0]'h0).1.data.toList)
    have hsz := shape_size (L[0]'h0).1.data.toList
    cases hok : shapeOk (L[0]'h0).1.data.toList with
    | false =>
      have HF := Lib.hid (fits_none h0 hok)
      rw [hok] at HS
      clear hok hq hkd hsz
      generalize (L[0]'h0).1 = s0 at *
      go_enter Tryz.func12, Tryz.ntmps12
      go_wp2_with (go_at_call 25; refine Calls.mono HS.out ?_; rintro e w1 ⟨rfl, hw⟩; obtain rfl : w = w1 := hw.symm)
      go_ret
      rw [HF.out]
      exact ⟨rfl, Below.refl _ _⟩
    | true =>
      by_cases hn : L.length = (shapeS (L[0]'h0).1.data.toList).size + 1
      · have HY := Lib.hid (fun h => fits_yes h0 hq hok hn h)
        have HX := Lib.hid (fits_no (L := L) h0)
        have HLen := Lib.hid hn
        have hn2 : ((L.length : Int) != ((shapeS (L[0]'h0).1.data.toList).size : Int) + 1) = false := by simp; omega
        rw [hok] at HS
        clear hok hq hn
        generalize shapeS (L[0]'h0).1.data.toList = sh at *
        generalize (L[0]'h0).1 = s0 at *
        go_enter Tryz.func12, Tryz.ntmps12
        go_wp2_with (go_at_call 25; refine Calls.mono HS.out ?_; rintro e w1 ⟨rfl, hw⟩; obtain rfl : w = w1 := hw.symm)
        clear hc0 hc1 hl0 hn2 HS
        go_loopw [35] (fun i wr => ∃ k : Nat, i = .int .i64 k ∧ k ≤ sh.size ∧ Below w.heap.size w wr ∧ Hid (okTo sh L k)) (fun i _ => sh.size - (intOf i).toNat)
        case atStart => exact ⟨0, rfl, Nat.zero_le _, Below.refl _ _, fun j _ _ h => absurd h (by omega)⟩
        case round =>
          obtain ⟨k, rfl, hle, hb, ha⟩ := hrel
          have HB := Lib.hid hb
          have hm1 : wr.cell? ⟨0, 0, none⟩ = some (.int .i64 m) := keepC hb HM.out (pos_of_cell HM.out)
          clear hb
          by_cases hp : k < sh.size
          · have hkl : k + 1 < L.length := by have := HLen.out; omega
            obtain ⟨c1, c2⟩ := (HL.out.below HB.out HG.out) (k + 1) hkl
            rw [Nat.mul_comm] at c1 c2
            have HI := Lib.hid (is_any (sh[k]'hp).toNat (hkd.out k hp) (L[k + 1]'hkl).1 (L[k + 1]'hkl).2 m)
            have hw1 : IntKind.i64.wrap ((k : Int) + 1) = (k : Int) + 1 := IntWalk.i64_in _ (by have := hsz; omega)
            have hw2 : (0 : Int) ≤ (k : Int) + 1 := by omega
            have hw3 : ((k : Int) + 1).toNat = k + 1 := by omega
            have hw4 : (k : Int) + 1 < (L.length : Int) := by omega
            go_wp2
            go_still_tail 8, (by kernel_rfl)
            change wpList _ _ _ _ _ wr.drew
            have HI2 := Lib.hid (HI.out wr.drew hm1)
            clear HI c1 c2 hw1 hw2 hw3 hw4 hm1
            have HB1 := Lib.hid (below_drew HB.out)
            generalize wr.drew = w2 at *
            cases hi : isL (sh[k]'hp).toNat (L[k + 1]'hkl).1.data.toList (L[k + 1]'hkl).2 with
            | true =>
              have HA := Lib.hid (okTo_succ ha.out hp hkl hi)
              rw [hi] at HI2
              clear hi
              go_wp2_with (go_at_call 26; refine Calls.mono HI2.out ?_; rintro e w3 ⟨rfl, hb3⟩; have HB3 := Lib.hid hb3; clear hb3)
              go_roundw
              case rel => exact ⟨k + 1, by go_num, by omega, HB1.out.trans (HB3.out.mono HB1.out.size), HA.out⟩
              case measure => (simp [intOf]; omega)
            | false =>
              have HF := Lib.hid (HX.out k hp hkl hi)
              rw [hi] at HI2
              clear hi
              go_wp2_with (go_at_call 26; refine Calls.mono HI2.out ?_; rintro e w3 ⟨rfl, hb3⟩; have HB3 := Lib.hid hb3; clear hb3)
              go_ret
              rw [HF.out]
              exact ⟨rfl, HB1.out.trans (HB3.out.mono HB1.out.size)⟩
          · obtain rfl : k = sh.size := by omega
            have HF := Lib.hid (HY.out ha.out)
            clear HY
            go_wp2
            go_ret
            rw [HF.out]
            exact ⟨rfl, HB.out⟩
      · have HF := Lib.hid (fits_len h0 hn)
        have hn2 : ((L.length : Int) != ((shapeS (L[0]'h0).1.data.toList).size : Int) + 1) = true := by rw [bne_iff_ne]; omega
        rw [hok] at HS
        clear hok hq hn hkd
        generalize shapeS (L[0]'h0).1.data.toList = sh at *
        generalize (L[0]'h0).1 = s0 at *
        go_enter Tryz.func12, Tryz.ntmps12
        go_wp2_with (go_at_call 25; refine Calls.mono HS.out ?_; rintro e w1 ⟨rfl, hw⟩; obtain rfl : w = w1 := hw.symm)
        go_ret
        rw [HF.out]
        exact ⟨rfl, Below.refl _ _⟩
end Go.Proofs.Parse
end
section
namespace Go.Proofs.Parse
open Go Go.Proofs Go.RowKit
set_option maxRecDepth 1000000 in
theorem right_any (g cap : Nat) (L : List (ByteArray × Bool)) (w : World) (hL : WordsAt w g L) (h0 : 0 < L.length) (hLn : L.length ≤ 1000) (hg : g < w.heap.size) (hbd : ∀ i (hi : i < L.length), (L[i]'hi).1.size ≤ 9223372036854775807) :
    Calls Tryz.prog 15 #[.slice (some ⟨g, 0, none⟩) L.length cap] w fun e w' => e = .returned (.bool (fitsL (wl L))) ∧ Below w.heap.size w w' := by
  have hc0 : w.cell? ⟨g, 0, none⟩ = some (.string (L[0]'h0).1) := (hL 0 h0).1
  have HL := Lib.hid hL
  have HG := Lib.hid hg
  have HBD := Lib.hid hbd
  have hc1 : ∀ w1, Below w.heap.size w w1 → w1.cell? ⟨g, 1, none⟩ = some (.bool (L[0]'h0).2) := fun w1 hb => keepC hb (hL 0 h0).2 hg
  have HC1 := Lib.hid hc1
  clear hL hg hbd hc1
  have HS := Lib.hid (rshape_any (L[0]'h0).1 w)
  have hkd := Lib.hid (shape_kinds (L[0]'h0).1.data.toList)
  have hsz := shape_size (L[0]'h0).1.data.toList
  cases hok : shapeOk (L[0]'h0).1.data.toList with
  | false =>
    have HF := Lib.hid (fits_none h0 hok)
    rw [hok] at HS
    clear hok hkd hsz HC1
    generalize (L[0]'h0).1 = s0 at *
    go_enter Tryz.func15, Tryz.ntmps15
    go_wp2_with (go_at_call 27; refine Calls.mono HS.out ?_; rintro e w1 ⟨rfl, hb⟩; have HB := Lib.hid hb; clear hb)
    go_ret
    rw [HF.out]
    exact ⟨rfl, HB.out⟩
  | true =>
    cases hq : (L[0]'h0).2 with
    | true =>
      have HF := Lib.hid (fits_quoted h0 hq)
      rw [hok] at HS
      rw [hq] at HC1
      clear hok hq hkd hsz
      generalize (L[0]'h0).1 = s0 at *
      go_enter Tryz.func15, Tryz.ntmps15
      go_wp2_with (go_at_call 27; refine Calls.mono HS.out ?_; rintro e w1 ⟨rfl, hb⟩; have hcc := HC1.out w1 hb; have HB := Lib.hid hb; clear hb)
      go_ret
      rw [HF.out]
      exact ⟨rfl, HB.out⟩
    | false =>
      rw [hq] at HC1
      by_cases hn : L.length = (shapeS (L[0]'h0).1.data.toList).size + 1
      · have HY := Lib.hid (fun h => fits_yes h0 hq hok hn h)
        have HX := Lib.hid (fits_no (L := L) h0)
        have HLen := Lib.hid hn
        have hn2 : ((L.length : Int) - (1 : Int) != ((shapeS (L[0]'h0).1.data.toList).size : Int)) = false := by rw [bne_eq_false_iff_eq]; omega
        rw [hok] at HS
        clear hok hq hn
        generalize shapeS (L[0]'h0).1.data.toList = sh at *
        generalize (L[0]'h0).1 = s0 at *
        go_enter Tryz.func15, Tryz.ntmps15
        go_wp2_with (go_at_call 27; refine Calls.mono HS.out ?_; rintro e w1 ⟨rfl, hb⟩; have hcc := HC1.out w1 hb; have HB0 := Lib.hid hb; clear hb)
        clear hc0 hn2 HS hcc HC1
        go_loopw [5] (fun i wr => ∃ k : Nat, i = .int .i64 k ∧ k ≤ sh.size ∧ Below w.heap.size w wr ∧ Hid (okTo sh L k)) (fun i _ => sh.size - (intOf i).toNat)
        case atStart => exact ⟨0, rfl, Nat.zero_le _, HB0.out, fun j _ _ h => absurd h (by omega)⟩
        case round =>
          obtain ⟨k, rfl, hle, hb, ha⟩ := hrel
          have HB := Lib.hid hb
          clear hb HB0
          by_cases hp : k < sh.size
          · have hkl : k + 1 < L.length := by have := HLen.out; omega
            obtain ⟨c1, c2⟩ := (HL.out.below HB.out HG.out) (k + 1) hkl
            rw [Nat.mul_comm] at c1 c2
            have HI2 := Lib.hid (ris_any (sh[k]'hp).toNat (hkd.out k hp) (L[k + 1]'hkl).1 (L[k + 1]'hkl).2 wr.drew (HBD.out (k + 1) hkl))
            have hw1 : IntKind.i64.wrap ((k : Int) + 1) = (k : Int) + 1 := IntWalk.i64_in _ (by have := hsz; omega)
            have hw2 : (0 : Int) ≤ (k : Int) + 1 := by omega
            have hw3 : ((k : Int) + 1).toNat = k + 1 := by omega
            have hw4 : (k : Int) + 1 < (L.length : Int) := by omega
            go_wp2
            go_still_tail 8, (by kernel_rfl)
            change wpList _ _ _ _ _ wr.drew
            clear c1 c2 hw1 hw2 hw3 hw4
            have HB1 := Lib.hid (below_drew HB.out)
            generalize wr.drew = w2 at *
            cases hi : isL (sh[k]'hp).toNat (L[k + 1]'hkl).1.data.toList (L[k + 1]'hkl).2 with
            | true =>
              have HA := Lib.hid (okTo_succ ha.out hp hkl hi)
              rw [hi] at HI2
              clear hi
              go_wp2_with (go_at_call 28; refine Calls.mono HI2.out ?_; rintro e w3 ⟨rfl, hb3⟩; have HB3 := Lib.hid hb3; clear hb3)
              go_roundw
              case rel => exact ⟨k + 1, by go_num, by omega, HB1.out.trans (HB3.out.mono HB1.out.size), HA.out⟩
              case measure => (simp [intOf]; omega)
            | false =>
              have HF := Lib.hid (HX.out k hp hkl hi)
              rw [hi] at HI2
              clear hi
              go_wp2_with (go_at_call 28; refine Calls.mono HI2.out ?_; rintro e w3 ⟨rfl, hb3⟩; have HB3 := Lib.hid hb3; clear hb3)
              go_ret
              rw [HF.out]
              exact ⟨rfl, HB1.out.trans (HB3.out.mono HB1.out.size)⟩
          · obtain rfl : k = sh.size := by omega
            have HF := Lib.hid (HY.out ha.out)
            clear HY
            go_wp2
            go_ret
            rw [HF.out]
            exact ⟨rfl, HB.out⟩
      · have HF := Lib.hid (fits_len h0 hn)
        have hn2 : ((L.length : Int) - (1 : Int) != ((shapeS (L[0]'h0).1.data.toList).size : Int)) = true := by rw [bne_iff_ne]; omega
        rw [hok] at HS
        clear hok hq hn hkd
        generalize shapeS (L[0]'h0).1.data.toList = sh at *
        generalize (L[0]'h0).1 = s0 at *
        go_enter Tryz.func15, Tryz.ntmps15
        go_wp2_with (go_at_call 27; refine Calls.mono HS.out ?_; rintro e w1 ⟨rfl, hb⟩; have hcc := HC1.out w1 hb; have HB := Lib.hid hb; clear hb)
        go_ret
        rw [HF.out]
        exact ⟨rfl, HB.out⟩
end Go.Proofs.Parse
end
section
namespace Go.Proofs.Parse
open Go Go.Proofs Go.RowKit
theorem Tryz.info45 : (Tryz.prog.info? 45).map (fun i => (i.zero, i.size, i.bytes)) = some (some (.agg #[.string ByteArray.empty, .bool false]), 2, 24) := by kernel_rfl
def cellsW (D : List (ByteArray × Bool)) : List Value := D.flatMap fun x => [.string x.1, .bool x.2]
theorem cellsW_snoc (D : List (ByteArray × Bool)) (x : ByteArray) (q : Bool) : cellsW (D ++ [(x, q)]) = cellsW D ++ [.string x, .bool q] := by simp [cellsW]
theorem c1_two (wr : World) (x y : Value) (e : TypeId) : ∀ (j : Nat) (u : Value), [x, y][j]? = some u → (wr.alloc (.cells #[x, y] e)).cell? ((⟨wr.heap.size, 0, none⟩ : Addr).add j) = some u := by
  intro j u hj
  match j, hj with
  | 0, hj => simp at hj; subst hj; simp [Addr.add]
  | 1, hj => simp at hj; subst hj; simp [Addr.add]
theorem c2_word (x : ByteArray) (q : Bool) : ∀ u ∈ [Value.string x, Value.bool q], u.oneCell' = true := by
  intro u hu; simp at hu; rcases hu with rfl | rfl <;> rfl
theorem app_below2 {B : Nat} {e : TypeId} {sz : Nat} {w wr w1 : World} {v : Value} {n : Nat} {xs : List Value} {o : Obj} (hb : Below B w wr) (hB : B ≤ wr.heap.size) (hown : wr.ownsRow B e sz v n xs) (hg : (wr.alloc o).grownBy w1 v.ownBlock) : Below B w w1 :=
  Below.grown (hb.alloc hB o) hg (by simp; omega) (fun j hj => (hown.lt j hj).1)
def szOf : Value → Nat | .string s => s.size | _ => 0
theorem trim_any (b b1 : ByteArray) (h : b1.data.toList = b.data.toList.dropWhile (· == 32)) (w : World) : Calls Tryz.prog 23 #[.string b, .string ⟨#[32]⟩] w fun e w' => e = .returned (.string b1) ∧ w' = w :=
  (Tryz.strings_TrimLeft_one b 32 (by decide) w).mono fun e w' ⟨h1, h2⟩ => ⟨by
    rw [h1]
    have : b1 = ⟨(Lib.trimLeftB b.data.toList 32).toArray⟩ := by
      cases b1 with | mk d => cases d with | mk d => simp at h; rw [h]; rfl
    rw [this], h2⟩
theorem index_any (s : ByteArray) (L : List UInt8) (hL : s.data.toList = L) (c : UInt8) (cI : Int) (hcI : cI.toNat.toUInt8 = c) (k : Int) (hk : Lib.indexByte L c = k) (w : World) :
    Calls Tryz.prog 24 #[.string s, .int .u8 cI] w fun e w' => e = .returned (.int .i64 k) ∧ w' = w :=
  (Tryz.strings_IndexByte s cI w).mono fun e w' ⟨h1, h2⟩ => ⟨by rw [h1, hL, hcI, hk], h2⟩
theorem prefix_any (s p : ByteArray) (L M : List UInt8) (hL : s.data.toList = L) (hM : p.data.toList = M) (b : Bool) (hb : Lib.hasPrefix L M = b) (w : World) :
    Calls Tryz.prog 10 #[.string s, .string p] w fun e w' => e = .returned (.bool b) ∧ w' = w :=
  (Tryz.strings_HasPrefix s p w).mono fun e w' ⟨h1, h2⟩ => ⟨by rw [h1, hL, hM, hb], h2⟩
theorem snoc32 (b1 : ByteArray) : (b1 ++ ⟨#[32]⟩ : ByteArray).data.toList = b1.data.toList ++ [32] := by simp
set_option maxRecDepth 1000000 in
theorem words_any (t : ByteArray) (w : World) (hs : t.size ≤ 1000) :
    Calls Tryz.prog 11 #[.string t] w fun e w' => ∃ (v : Value) (ok : Bool) (D : List (ByteArray × Bool)), e = .returned (.tuple #[v, .bool ok]) ∧ (ok = true → wordsL t.data.toList = some (wl D) ∧ w'.ownsRow w.heap.size 45 2 v D.length (cellsW D) ∧ D.length ≤ t.size) ∧ (ok = false → wordsL t.data.toList = none) ∧ Below w.heap.size w w' := by
  obtain ⟨i0, hi, hz0, hz1, hz2⟩ := info_parts Tryz.info45
  go_enter Tryz.func11, Tryz.ntmps11
  go_wp2
  go_loopw [0, 4] (fun s l wr => ∃ (b : ByteArray) (D : List (ByteArray × Bool)), s = .string b ∧ wr.ownsRow w.heap.size 45 2 l D.length (cellsW D) ∧ D.length + b.size ≤ t.size ∧ Below w.heap.size w wr ∧ Hid (wordsL t.data.toList = (wordsL b.data.toList).map (wl D ++ ·))) (fun s _ _ => szOf s)
  case atStart => exact ⟨t, [], rfl, World.ownsRow_nil _ _ _ _, by simp, Below.refl _ _, by show _ = _; cases wordsL t.data.toList <;> simp [wl]⟩
  case round =>
    obtain ⟨b, D, rfl, hown, hsz, hb, hinv⟩ := hrel
    have HB := Lib.hid hb
    clear hb
    obtain ⟨b1, hb1⟩ : ∃ b1 : ByteArray, b1.data.toList = b.data.toList.dropWhile (· == 32) := ⟨⟨(b.data.toList.dropWhile (· == 32)).toArray⟩, by simp⟩
    have HT := Lib.hid (trim_any b b1 hb1 wr)
    have hb2 : b1.size ≤ b.size := by
      have h1 := len_data b1
      have h2 := len_data b
      have h3 := congrArg List.length hb1
      have h4 := (List.dropWhile_sublist (p := (· == (32 : UInt8))) (l := b.data.toList)).length_le
      omega
    have hw := words_spaces b.data.toList
    rw [← hb1] at hw
    rw [← hw] at hinv
    have HW := Lib.hid hb1
    clear hw hb1
    by_cases h0 : b1.size = 0
    · have j1 : b1.toList = [] := by
        have := len_data b1
        rw [ByteArray.toList_eq]; exact List.eq_nil_of_length_eq_zero (by omega)
      have j2 : b1.toList.isEmpty = true := by rw [j1]; rfl
      have HZ : Hid (wordsL t.data.toList = some (wl D)) := by
        show _ = _
        have := hinv.out
        rw [ByteArray.toList_eq] at j1
        rw [j1, words_nil] at this
        simpa using this
      clear h0
      go_wp2_with (go_at_call 23; refine Calls.mono HT.out ?_; rintro e w1 ⟨rfl, hw⟩; obtain rfl : wr = w1 := hw.symm)
      go_ret2
      exact ⟨_, _, D, rfl, fun _ => ⟨HZ.out, hown, by omega⟩, fun h => (by cases h), HB.out⟩
    · have j2 : b1.toList.isEmpty = false := by
        have := len_data b1
        rw [ByteArray.toList_eq]
        cases h : b1.data.toList with
        | nil => rw [h] at this; simp at this; omega
        | cons _ _ => rfl
      have j1 : ¬ b1.toList = [] := by intro h; rw [h] at j2; simp at j2
      have hpos : 0 < b1.size := by omega
      by_cases hc : ((b1[0]'hpos).toNat : Int) = 34
      · have hd : b1.data.toList = 34 :: b1.data.toList.drop 1 := by
          have hg := getEl b1 0 hpos
          cases hd : b1.data.toList with
          | nil => rw [hd] at hg; simp at hg
          | cons c r =>
            rw [hd] at hg
            simp only [List.getElem?_cons_zero, Option.some.injEq] at hg
            have : c = 34 := UInt8.toNat_inj.1 (by rw [hg]; exact Int.ofNat.inj hc)
            rw [this]; rfl
        have hx1 : (b1.extract 1 b1.size).data.toList = b1.data.toList.drop 1 := by rw [sl_data, ← len_data, List.take_length]
        have hl1 : (b1.data.toList.drop 1).length = b1.size - 1 := by rw [List.length_drop, len_data]
        rcases quote_step (r := b1.data.toList.drop 1) with ⟨hq1, hq2⟩ | ⟨k, hq1, hq2, hq3⟩
        · have HI := Lib.hid (fun w => index_any (b1.extract 1 b1.size) _ hx1 34 34 rfl (-1) hq1 w)
          have HN : Hid (wordsL t.data.toList = none) := by
            show _ = _
            rw [hinv.out, hd, hq2]; rfl
          clear hd hx1 hl1 hq1 hq2 hinv
          go_wp2_with (first
            | (go_at_call 23; refine Calls.mono HT.out ?_; rintro e w1 ⟨rfl, hw⟩; obtain rfl : wr = w1 := hw.symm)
            | (go_at_call 24; refine Calls.mono (HI.out _) ?_; rintro e w1 ⟨rfl, hw⟩; obtain rfl : wr = w1 := hw.symm))
          go_ret2
          exact ⟨_, _, D, rfl, fun h => (by cases h), fun _ => HN.out, HB.out⟩
        · have HI := Lib.hid (fun w => index_any (b1.extract 1 b1.size) _ hx1 34 34 rfl (k : Int) hq1 w)
          rw [← hd] at hq3
          have hx2 : (b1.extract (k + 2) b1.size).data.toList = b1.data.toList.drop (k + 2) := by rw [sl_data, ← len_data, List.take_length]
          rw [hl1] at hq2
          have HP := Lib.hid (fun w => prefix_any (b1.extract (k + 2) b1.size ++ ⟨#[32]⟩) ⟨#[32]⟩ _ _ ((snoc32 _).trans (by rw [hx2])) rfl _ (headSp_prefix (b1.data.toList.drop (k + 2))) w)
          cases hp : headSp (b1.data.toList.drop (k + 2)) with
          | false =>
            rw [hp] at HP hq3
            have HN : Hid (wordsL t.data.toList = none) := by
              show _ = _
              rw [hinv.out, hq3]; rfl
            clear hd hx1 hl1 hx2 hq1 hq3 hinv hp
            go_wp2_with (first
              | (go_at_call 23; refine Calls.mono HT.out ?_; rintro e w1 ⟨rfl, hw⟩; obtain rfl : wr = w1 := hw.symm)
              | (go_at_call 24; refine Calls.mono (HI.out _) ?_; rintro e w1 ⟨rfl, hw⟩; obtain rfl : wr = w1 := hw.symm)
              | (go_at_call 10; refine Calls.mono (HP.out _) ?_; rintro e w1 ⟨rfl, hw⟩; obtain rfl : wr = w1 := hw.symm))
            go_ret2
            exact ⟨_, _, D, rfl, fun h => (by cases h), fun _ => HN.out, HB.out⟩
          | true =>
            rw [hp] at HP hq3
            have HN : Hid (wordsL t.data.toList = (wordsL (b1.extract (k + 2) b1.size).data.toList).map (wl (D ++ [(b1.extract 1 (k + 1), true)]) ++ ·)) := by
              show _ = _
              have e2 : (b1.extract 1 (k + 1)).data.toList = (b1.data.toList.take (k + 1)).drop 1 := sl_data _ _ _
              rw [hinv.out, hq3, hx2, if_pos rfl, Option.map_map]
              congr 1
              funext x
              show wl D ++ ((b1.data.toList.take (k + 1)).drop 1, true) :: x = wl (D ++ [(b1.extract 1 (k + 1), true)]) ++ x
              rw [← e2]
              simp only [wl, List.map_append, List.append_assoc]; rfl
            clear hd hx1 hl1 hx2 hq1 hq3 hinv hp
            have f1 : (1 : Int) ≤ (k : Int) + 1 := by omega
            have f2 : (k : Int) + 1 ≤ (b1.size : Int) := by omega
            have f3 : (0 : Int) ≤ (k : Int) + 1 := by omega
            have f4 : ((k : Int) + 1).toNat = k + 1 := by omega
            go_wp2_with (first
              | (go_at_call 23; refine Calls.mono HT.out ?_; rintro e w1 ⟨rfl, hw⟩; obtain rfl : wr = w1 := hw.symm)
              | (go_at_call 24; refine Calls.mono (HI.out _) ?_; rintro e w1 ⟨rfl, hw⟩; obtain rfl : wr = w1 := hw.symm)
              | (go_at_call 10; refine Calls.mono (HP.out _) ?_; rintro e w1 ⟨rfl, hw⟩; obtain rfl : wr = w1 := hw.symm)
              | (at_builtin; refine wpList_append_own _ rfl _ _ 40 rfl w.heap.size 45 i0 (.agg #[.string ByteArray.empty, .bool false]) 2 24 Tryz.underlying40 hi hz0 hz1 hz2 rfl (by decide) _ _ _ rfl (hown.alloc _) ⟨wr.heap.size, 0, none⟩ 1 1 [.string (b1.extract 1 (k + 1)), .bool true] rfl rfl (c1_two _ _ _ _) (c2_word _ _) (by unfold maxLen; omega) (by omega) (by have := HB.out.size; simp; omega) ?_; intro v' w1 hown' hgrow _))
            go_goals
            refine ⟨⟨b1.extract (k + 2) b1.size, D ++ [(b1.extract 1 (k + 1), true)], rfl, ?_, ?_, app_below2 HB.out (by have := HB.out.size; omega) hown hgrow, HN⟩, ?_⟩
            · rw [cellsW_snoc, List.length_append]; exact hown'
            · rw [List.length_append, List.length_singleton, ByteArray.size_extract]; omega
            · show (b1.extract (k + 2) b1.size).size < b.size
              rw [ByteArray.size_extract]; omega
      · have hc2 : (((b1[0]'hpos).toNat : Int) != 34) = true := by rw [bne_iff_ne]; exact hc
        obtain ⟨k, hk1, hk2, hk3⟩ := blank_index b1.data.toList
        have hh : ∃ c r, b1.data.toList = c :: r ∧ c ≠ 32 ∧ c ≠ 34 := by
          have hg := getEl b1 0 hpos
          cases hd : b1.data.toList with
          | nil => rw [hd] at hg; simp at hg
          | cons c r =>
            rw [hd] at hg
            simp only [List.getElem?_cons_zero, Option.some.injEq] at hg
            refine ⟨c, r, rfl, ?_, ?_⟩
            · have := dropWhile_head (p := (· == 32)) (HW.out.symm.trans hd)
              simpa using this
            · rintro rfl; exact hc (by rw [← hg]; rfl)
        obtain ⟨hk4, hk5⟩ := word_step hh hk3 hk2
        rw [len_data] at hk2
        have HI := Lib.hid (fun w => index_any (b1 ++ ⟨#[32]⟩) _ (snoc32 b1) 32 32 rfl k hk1 w)
        have HN : Hid (wordsL t.data.toList = (wordsL (b1.extract k b1.size).data.toList).map (wl (D ++ [(b1.extract 0 k, false)]) ++ ·)) := by
          show _ = _
          have e1 : (b1.extract k b1.size).data.toList = b1.data.toList.drop k := by rw [sl_data, ← len_data, List.take_length]
          have e2 : (b1.extract 0 k).data.toList = b1.data.toList.take k := by rw [sl_data, List.drop_zero]
          rw [hinv.out, hk5, e1, Option.map_map]
          congr 1
          funext x
          simp [wl, e2]
        clear hk1 hk3 hk5 hh hinv hc
        go_wp2_with (first
          | (go_at_call 23; refine Calls.mono HT.out ?_; rintro e w1 ⟨rfl, hw⟩; obtain rfl : wr = w1 := hw.symm)
          | (go_at_call 24; refine Calls.mono (HI.out _) ?_; rintro e w1 ⟨rfl, hw⟩; obtain rfl : wr = w1 := hw.symm)
          | (at_builtin; refine wpList_append_own _ rfl _ _ 40 rfl w.heap.size 45 i0 (.agg #[.string ByteArray.empty, .bool false]) 2 24 Tryz.underlying40 hi hz0 hz1 hz2 rfl (by decide) _ _ _ rfl (hown.alloc _) ⟨wr.heap.size, 0, none⟩ 1 1 [.string (b1.extract 0 k), .bool false] rfl rfl (c1_two _ _ _ _) (c2_word _ _) (by unfold maxLen; omega) (by omega) (by have := HB.out.size; simp; omega) ?_; intro v' w1 hown' hgrow _))
        go_goals
        refine ⟨⟨b1.extract k b1.size, D ++ [(b1.extract 0 k, false)], rfl, ?_, ?_, app_below2 HB.out (by have := HB.out.size; omega) hown hgrow, HN⟩, ?_⟩
        · rw [cellsW_snoc, List.length_append]; exact hown'
        · rw [List.length_append, List.length_singleton, ByteArray.size_extract]; omega
        · show (b1.extract k b1.size).size < b.size
          rw [ByteArray.size_extract]; omega
end Go.Proofs.Parse
end
section
namespace Go.Proofs.Parse
open Go Go.Proofs Go.RowKit
set_option maxRecDepth 1000000 in
theorem lines_any (s : ByteArray) (w : World) (hs : s.size ≤ 20000) :
    Calls Tryz.prog 13 #[.string s] w fun e w' => ∃ (v : Value) (D : List ByteArray), e = .returned v ∧ D.map (·.data.toList) = linesL s.data.toList ∧ w'.ownsRow w.heap.size 9 1 v D.length (D.map Value.string) ∧ D.length ≤ s.size + 1 ∧ Below w.heap.size w w' := by
  obtain ⟨i0, hi, hz0, hz1, hz2⟩ := info_parts Tryz.info9
  have hsl := len_data s
  go_enter Tryz.func13, Tryz.ntmps13
  go_wp2
  go_loopw [3, 4, 5] (fun out f i wr => ∃ (k F : Nat) (D : List ByteArray), i = .int .i64 k ∧ f = .int .i64 F ∧ k ≤ s.size ∧ F ≤ k ∧ D.length ≤ k ∧ wr.ownsRow w.heap.size 9 1 out D.length (D.map Value.string) ∧ Below w.heap.size w wr ∧ Hid (CutInv 10 s.data.toList k F (D.map (·.data.toList)))) (fun _ _ i _ => s.size - (intOf i).toNat)
  case atStart => exact ⟨0, 0, [], rfl, rfl, by omega, by omega, by simp, World.ownsRow_nil _ _ _ _, Below.refl _ _, cut_start _ _⟩
  case round =>
    obtain ⟨k, F, D, rfl, rfl, hk, hF, hD, hown, hb, hinv⟩ := hrel
    have HB := Lib.hid hb
    clear hb
    have hsz := HB.out.size
    by_cases hlt : k < s.size
    · by_cases hc : (s[k]'hlt).toNat = 10
      · have hc' : ((s[k]'hlt).toNat : Int) = 10 := by omega
        go_wp2_with (at_builtin; refine wpList_append_own _ rfl _ _ 30 rfl w.heap.size 9 i0 (.string ByteArray.empty) 1 16 Tryz.underlying30 hi hz0 hz1 hz2 rfl (by decide) _ _ _ rfl (hown.alloc _) ⟨wr.heap.size, 0, none⟩ 1 1 [.string (s.extract F k)] rfl rfl (c1_one _ _ _) (c2_str _) (by unfold maxLen; omega) (by omega) (by simp; omega) ?_; intro v' w1 hown' hgrow _)
        have H1 := Lib.hid hown'
        have H2 := Lib.hid (app_below HB.out hsz hown hgrow)
        clear hown' hgrow hown
        have HI := Lib.hid (cut_at hinv.out (by omega) (by rw [getEl s k hlt]; exact congrArg some (UInt8.toNat_inj.1 hc)))
        go_roundw
        case rel => exact ⟨k + 1, k + 1, D ++ [s.extract F k], by go_num, by go_num, by omega, by omega, by simp; omega, by simpa using H1.out, H2.out, Lib.hid (by have := HI.out; rw [← sl_data] at this; simpa using this)⟩
        case measure => (simp [intOf]; omega)
      · have hc' : ((s[k]'hlt).toNat : Int) = 10 → False := fun h => hc (by omega)
        have hc2 : (((s[k]'hlt).toNat : Int) == 10) = false := by simpa using hc'
        have HI := Lib.hid (cut_on hinv.out (by omega) (by rw [getEl s k hlt]; intro h; simp only [Option.some.injEq] at h; exact hc (by rw [h]; rfl)))
        clear hc hc'
        go_wp2
        go_roundw
        case rel => exact ⟨k + 1, F, D, by go_num, rfl, by omega, by omega, by omega, hown, HB.out, HI.out⟩
        case measure => (simp [intOf]; omega)
    · obtain rfl : k = s.size := by omega
      have HI := Lib.hid (lines_end (D := D.map (·.data.toList)) (F := F) (l := s.data.toList) (by rw [hsl]; exact hinv.out) (by omega))
      clear hinv
      by_cases hF2 : F < s.size
      · go_wp2_with (at_builtin; refine wpList_append_own _ rfl _ _ 30 rfl w.heap.size 9 i0 (.string ByteArray.empty) 1 16 Tryz.underlying30 hi hz0 hz1 hz2 rfl (by decide) _ _ _ rfl (hown.alloc _) ⟨wr.heap.size, 0, none⟩ 1 1 [.string (s.extract F s.size)] rfl rfl (c1_one _ _ _) (c2_str _) (by unfold maxLen; omega) (by omega) (by simp; omega) ?_; intro v' w1 hown' hgrow _)
        have H1 := Lib.hid hown'
        have H2 := Lib.hid (app_below HB.out hsz hown hgrow)
        clear hown' hgrow hown
        go_ret
        refine ⟨_, D ++ [s.extract F s.size], rfl, ?_, by simpa using H1.out, by simp; omega, H2.out⟩
        rw [HI.out, if_pos (by omega), List.map_append, List.map_singleton, sl_data, ← hsl, List.take_length]
      · go_wp2
        go_ret
        exact ⟨_, D, rfl, by rw [HI.out, if_neg (by omega)], hown, by omega, HB.out⟩
end Go.Proofs.Parse
end
section
namespace Go.Proofs.Parse
open Go Go.Proofs Go.RowKit
theorem Tryz.info52 : (Tryz.prog.info? 52).map (fun i => (i.zero, i.size, i.bytes)) = some (some (.agg #[.string ByteArray.empty, .bool false]), 2, 24) := by kernel_rfl
theorem wl_snoc (D : List (ByteArray × Bool)) (x : ByteArray) (q : Bool) : wl (D ++ [(x, q)]) = wl D ++ [(x.data.toList, q)] := by simp [wl]
set_option maxRecDepth 1000000 in
theorem rwords_any (s : ByteArray) (w : World) (hs : s.size ≤ 20000) :
    Calls Tryz.prog 14 #[.string s] w fun e w' => ∃ (v : Value) (ok : Bool) (D : List (ByteArray × Bool)), e = .returned (.tuple #[v, .bool ok]) ∧ (ok = true → wordsL s.data.toList = some (wl D) ∧ w'.ownsRow w.heap.size 52 2 v D.length (cellsW D) ∧ D.length ≤ s.size) ∧ (ok = false → wordsL s.data.toList = none) ∧ Below w.heap.size w w' := by
  obtain ⟨i0, hi, hz0, hz1, hz2⟩ := info_parts Tryz.info52
  have hsl := len_data s
  go_enter Tryz.func14, Tryz.ntmps14
  go_wp2
  go_loopw [4, 5] (fun l i wr => ∃ (k : Nat) (D : List (ByteArray × Bool)), i = .int .i64 k ∧ k ≤ s.size ∧ wr.ownsRow w.heap.size 52 2 l D.length (cellsW D) ∧ D.length ≤ k ∧ Below w.heap.size w wr ∧ Hid (WInv s.data.toList k (wl D))) (fun _ i _ => s.size - (intOf i).toNat)
  case atStart => exact ⟨0, [], rfl, by omega, World.ownsRow_nil _ _ _ _, by simp, Below.refl _ _, winv_start _⟩
  case round =>
    obtain ⟨k, D, rfl, hk, hown, hD, hb, hinv⟩ := hrel
    have HB := Lib.hid hb
    clear hb
    have hsz := HB.out.size
    by_cases hlt : k < s.size
    · by_cases hc : (s[k]'hlt).toNat = 32
      · have hc' : ((s[k]'hlt).toNat : Int) = 32 := by omega
        have HI := Lib.hid (winv_blank hinv.out (by rw [getEl s k hlt]; exact congrArg some (UInt8.toNat_inj.1 hc)))
        clear hinv hc
        go_wp2
        go_roundw
        case rel => exact ⟨k + 1, D, by go_num, by omega, hown, by omega, HB.out, HI.out⟩
        case measure => (simp [intOf]; omega)
      · have hc' : ((s[k]'hlt).toNat : Int) = 32 → False := fun h => hc (by omega)
        have hc2 : (((s[k]'hlt).toNat : Int) == 32) = false := by simpa using hc'
        by_cases hq : (s[k]'hlt).toNat = 34
        · have hq' : ((s[k]'hlt).toNat : Int) = 34 := by omega
          have HK : Hid (s.data.toList[k]? = some 34) := by show _ = _; rw [getEl s k hlt]; exact congrArg some (UInt8.toNat_inj.1 hq)
          clear hc hc' hq
          go_wp2
          go_loopw [6] (fun j wr2 => wr2 = wr ∧ ∃ (jn : Nat), j = .int .i64 jn ∧ k + 1 ≤ jn ∧ jn ≤ s.size ∧ Hid (∀ m, k + 1 ≤ m → m < jn → s.data.toList[m]? ≠ some 34)) (fun j _ => s.size - (intOf j).toNat)
          case atStart => exact ⟨rfl, k + 1, by go_num, by omega, by omega, fun m h1 h2 => absurd h2 (by omega)⟩
          case round =>
            obtain ⟨rfl, j, rfl, hj1, hj2, hno⟩ := hrel
            by_cases hjl : j < s.size
            · by_cases hb34 : (s[j]'hjl).toNat = 34
              · have hb1 : ((s[j]'hjl).toNat : Int) = 34 := by omega
                have f1 : (k : Int) + 1 ≤ (j : Int) := by omega
                have f2 : (j : Int) ≤ (s.size : Int) := by omega
                have f3 : (0 : Int) ≤ (k : Int) + 1 := by omega
                have f4 : ((k : Int) + 1).toNat = k + 1 := by omega
                have hj3 : (j : Int) < (s.size : Int) := by omega
                have hj4 : ((j : Int) != (s.size : Int)) = true := by rw [bne_iff_ne]; omega
                have hj5 : ((j : Int) == (s.size : Int)) = false := by rw [beq_eq_false_iff_ne]; omega
                have HQ := Lib.hid (q_at HK.out hj1 hno.out (by rw [getEl s j hjl]; exact congrArg some (UInt8.toNat_inj.1 hb34)))
                clear hb34 hno
                by_cases hj6 : j + 1 < s.size
                · have hj7 : (j : Int) + 1 < (s.size : Int) := by omega
                  by_cases hc3 : (s[j + 1]'hj6).toNat = 32
                  · have hc4 : ((s[j + 1]'hj6).toNat : Int) = 32 := by omega
                    have HS : Hid (WInv s.data.toList (j + 1) (wl (D ++ [(s.extract (k + 1) j, true)]))) := by
                      show WInv _ _ _
                      rw [wl_snoc, sl_data]
                      refine winv_step hinv.out ?_
                      rw [HQ.out, head_at (by rw [getEl s _ hj6]), show s[j + 1]'hj6 = 32 from UInt8.toNat_inj.1 hc3]
                      rfl
                    clear HQ hinv hc3
                    go_wp2_with (at_builtin; refine wpList_append_own _ rfl _ _ 47 rfl w.heap.size 52 i0 (.agg #[.string ByteArray.empty, .bool false]) 2 24 Tryz.underlying47 hi hz0 hz1 hz2 rfl (by decide) _ _ _ rfl (hown.alloc _) ⟨wr.heap.size, 0, none⟩ 1 1 [.string (s.extract (k + 1) j), .bool true] rfl rfl (c1_two _ _ _ _) (c2_word _ _) (by unfold maxLen; omega) (by omega) (by have := HB.out.size; simp; omega) ?_; intro v' w1 hown' hgrow _)
                    have H1 := Lib.hid hown'
                    have H2 := Lib.hid (app_below2 HB.out (by have := HB.out.size; omega) hown hgrow)
                    clear hown' hgrow hown
                    go_roundw
                    case rel => exact ⟨j + 1, D ++ [(s.extract (k + 1) j, true)], by go_num, by omega, by rw [cellsW_snoc, List.length_append]; exact H1.out, by rw [List.length_append, List.length_singleton]; omega, H2.out, HS⟩
                    case measure => (simp [intOf]; omega)
                  · have hc4 : (((s[j + 1]'hj6).toNat : Int) != 32) = true := by rw [bne_iff_ne]; omega
                    have hc5 : (((s[j + 1]'hj6).toNat : Int) == 32) = false := by rw [beq_eq_false_iff_ne]; omega
                    have HN : Hid (wordsL s.data.toList = none) := by
                      show _ = _
                      refine winv_none hinv.out ?_
                      rw [HQ.out, head_at (by rw [getEl s _ hj6])]
                      rw [if_neg]
                      simp only [beq_iff_eq]
                      intro h
                      exact hc3 (by rw [h]; rfl)
                    clear HQ hinv hc3
                    go_wp2
                    go_ret2
                    exact ⟨_, _, D, rfl, fun h => (by cases h), fun _ => HN.out, HB.out⟩
                · have hj7 : ((j : Int) + 1 < (s.size : Int)) = False := eq_false (by omega)
                  have hj8 : ¬ ((j : Int) + 1 < (s.size : Int)) := by omega
                  have HS : Hid (WInv s.data.toList (j + 1) (wl (D ++ [(s.extract (k + 1) j, true)]))) := by
                    show WInv _ _ _
                    rw [wl_snoc, sl_data]
                    refine winv_step hinv.out ?_
                    rw [HQ.out, head_end (by omega), if_pos rfl]
                  clear HQ hinv
                  go_wp2_with (at_builtin; refine wpList_append_own _ rfl _ _ 47 rfl w.heap.size 52 i0 (.agg #[.string ByteArray.empty, .bool false]) 2 24 Tryz.underlying47 hi hz0 hz1 hz2 rfl (by decide) _ _ _ rfl (hown.alloc _) ⟨wr.heap.size, 0, none⟩ 1 1 [.string (s.extract (k + 1) j), .bool true] rfl rfl (c1_two _ _ _ _) (c2_word _ _) (by unfold maxLen; omega) (by omega) (by have := HB.out.size; simp; omega) ?_; intro v' w1 hown' hgrow _)
                  have H1 := Lib.hid hown'
                  have H2 := Lib.hid (app_below2 HB.out (by have := HB.out.size; omega) hown hgrow)
                  clear hown' hgrow hown
                  go_roundw
                  case rel => exact ⟨j + 1, D ++ [(s.extract (k + 1) j, true)], by go_num, by omega, by rw [cellsW_snoc, List.length_append]; exact H1.out, by rw [List.length_append, List.length_singleton]; omega, H2.out, HS⟩
                  case measure => (simp [intOf]; omega)
              · have hb1 : (((s[j]'hjl).toNat : Int) != 34) = true := by rw [bne_iff_ne]; omega
                have hb2 : (((s[j]'hjl).toNat : Int) == 34) = false := by rw [beq_eq_false_iff_ne]; omega
                have HN : Hid (∀ m, k + 1 ≤ m → m < j + 1 → s.data.toList[m]? ≠ some 34) := by
                  show ∀ _, _
                  intro m hm1 hm2
                  by_cases e : m = j
                  · rw [e, getEl s j hjl]
                    intro h
                    simp only [Option.some.injEq] at h
                    exact hb34 (by rw [h]; rfl)
                  · exact hno.out m hm1 (by omega)
                clear hb34 hno
                go_wp2
                go_roundw
                case rel => exact ⟨trivial, j + 1, by go_num, by omega, by omega, HN⟩
                case measure => (simp [intOf]; omega)
            · obtain rfl : j = s.size := by omega
              have HN : Hid (wordsL s.data.toList = none) := by
                show _ = _
                exact winv_none hinv.out (q_none HK.out (by rw [hsl]; exact hno.out))
              clear hno hinv
              go_wp2
              go_ret2
              exact ⟨_, _, D, rfl, fun h => (by cases h), fun _ => HN.out, HB.out⟩
        · have hq' : ((s[k]'hlt).toNat : Int) = 34 → False := fun h => hq (by omega)
          have hq2 : (((s[k]'hlt).toNat : Int) == 34) = false := by simpa using hq'
          have HK : Hid (s.data.toList[k]? = some (s[k]'hlt) ∧ s[k]'hlt ≠ 32 ∧ s[k]'hlt ≠ 34) := by
            show _ ∧ _
            exact ⟨getEl s k hlt, fun h => hc (by rw [h]; rfl), fun h => hq (by rw [h]; rfl)⟩
          clear hc hc' hq hq'
          go_wp2
          go_loopw [6] (fun j wr2 => wr2 = wr ∧ ∃ (jn : Nat), j = .int .i64 jn ∧ k + 1 ≤ jn ∧ jn ≤ s.size ∧ Hid (∀ m, k + 1 ≤ m → m < jn → s.data.toList[m]? ≠ some 32)) (fun j _ => s.size - (intOf j).toNat)
          case atStart => exact ⟨rfl, k + 1, by go_num, by omega, by omega, fun m h1 h2 => absurd h2 (by omega)⟩
          case round =>
            obtain ⟨rfl, j, rfl, hj1, hj2, hno⟩ := hrel
            have f1 : (k : Int) ≤ (j : Int) := by omega
            by_cases hjl : j < s.size
            · by_cases hb32 : (s[j]'hjl).toNat = 32
              · have hb1 : ((s[j]'hjl).toNat : Int) = 32 := by omega
                have f2 : (j : Int) ≤ (s.size : Int) := by omega
                have HS : Hid (WInv s.data.toList j (wl (D ++ [(s.extract (k) j, false)]))) := by
                  show WInv _ _ _
                  rw [wl_snoc, sl_data]
                  exact winv_step hinv.out (p_good HK.out.1 HK.out.2.1 HK.out.2.2 hj1 (by omega) hno.out (.inr (by rw [getEl s j hjl]; exact congrArg some (UInt8.toNat_inj.1 hb32))))
                clear hb32 hno hinv
                go_wp2_with (at_builtin; refine wpList_append_own _ rfl _ _ 47 rfl w.heap.size 52 i0 (.agg #[.string ByteArray.empty, .bool false]) 2 24 Tryz.underlying47 hi hz0 hz1 hz2 rfl (by decide) _ _ _ rfl (hown.alloc _) ⟨wr.heap.size, 0, none⟩ 1 1 [.string (s.extract (k) j), .bool false] rfl rfl (c1_two _ _ _ _) (c2_word _ _) (by unfold maxLen; omega) (by omega) (by have := HB.out.size; simp; omega) ?_; intro v' w1 hown' hgrow _)
                have H1 := Lib.hid hown'
                have H2 := Lib.hid (app_below2 HB.out (by have := HB.out.size; omega) hown hgrow)
                clear hown' hgrow hown
                go_roundw
                case rel => exact ⟨j, D ++ [(s.extract (k) j, false)], by go_num, by omega, by rw [cellsW_snoc, List.length_append]; exact H1.out, by rw [List.length_append, List.length_singleton]; omega, H2.out, HS⟩
                case measure => (simp [intOf]; omega)
              · have hb1 : (((s[j]'hjl).toNat : Int) != 32) = true := by rw [bne_iff_ne]; omega
                have hb2 : (((s[j]'hjl).toNat : Int) == 32) = false := by rw [beq_eq_false_iff_ne]; omega
                have HN : Hid (∀ m, k + 1 ≤ m → m < j + 1 → s.data.toList[m]? ≠ some 32) := by
                  show ∀ _, _
                  intro m hm1 hm2
                  by_cases e : m = j
                  · rw [e, getEl s j hjl]
                    intro h
                    simp only [Option.some.injEq] at h
                    exact hb32 (by rw [h]; rfl)
                  · exact hno.out m hm1 (by omega)
                clear hb32 hno
                go_wp2
                go_roundw
                case rel => exact ⟨trivial, j + 1, by go_num, by omega, by omega, HN⟩
                case measure => (simp [intOf]; omega)
            · obtain rfl : j = s.size := by omega
              have HS : Hid (WInv s.data.toList s.size (wl (D ++ [(s.extract (k) s.size, false)]))) := by
                show WInv _ _ _
                rw [wl_snoc, sl_data]
                exact winv_step hinv.out (p_good HK.out.1 HK.out.2.1 HK.out.2.2 hj1 (by omega) hno.out (.inl hsl.symm))
              clear hno hinv
              go_wp2_with (at_builtin; refine wpList_append_own _ rfl _ _ 47 rfl w.heap.size 52 i0 (.agg #[.string ByteArray.empty, .bool false]) 2 24 Tryz.underlying47 hi hz0 hz1 hz2 rfl (by decide) _ _ _ rfl (hown.alloc _) ⟨wr.heap.size, 0, none⟩ 1 1 [.string (s.extract (k) s.size), .bool false] rfl rfl (c1_two _ _ _ _) (c2_word _ _) (by unfold maxLen; omega) (by omega) (by have := HB.out.size; simp; omega) ?_; intro v' w1 hown' hgrow _)
              have H1 := Lib.hid hown'
              have H2 := Lib.hid (app_below2 HB.out (by have := HB.out.size; omega) hown hgrow)
              clear hown' hgrow hown
              go_roundw
              case rel => exact ⟨s.size, D ++ [(s.extract (k) s.size, false)], by go_num, by omega, by rw [cellsW_snoc, List.length_append]; exact H1.out, by rw [List.length_append, List.length_singleton]; omega, H2.out, HS⟩
              case measure => (simp [intOf]; omega)
    · obtain rfl : k = s.size := by omega
      have HI := Lib.hid (winv_end hinv.out (by omega))
      clear hinv
      go_wp2
      go_ret2
      exact ⟨_, _, D, rfl, fun _ => ⟨HI.out, hown, by omega⟩, fun h => (by cases h), HB.out⟩
end Go.Proofs.Parse
end
section
namespace Go.Proofs.Parse
open Go Go.Lib
def longL : Nat → List (List UInt8) → Option Nat
  | _, [] => none
  | i, l :: r => if 200 ≤ i ∨ 200 < l.length then some (i + 1) else longL (i + 1) r
def skipL (l : List UInt8) : Bool := match l with
  | [] => true
  | c :: _ => c == 35
def tellL : Nat → List (List UInt8) → Except Nat (List (Nat × List (List UInt8)))
  | _, [] => .ok []
  | i, l :: r =>
    if skipL l then tellL (i + 1) r
    else match wordsL l with
      | none => .error (i + 1)
      | some D => if D = [] then tellL (i + 1) r
        else if fitsL D then (tellL (i + 1) r).map ((i + 1, D.map (·.1)) :: ·)
        else .error (i + 1)
def parseL (t : List UInt8) : Nat × Nat × List (Nat × List (List UInt8)) :=
  match longL 0 (linesL t) with
  | some n => (n, 2, [])
  | none => match tellL 0 (linesL t) with
    | .error n => (n, 4, [])
    | .ok P => (0, 0, P)
def LongInv (L : List (List UInt8)) (k : Nat) : Prop := longL 0 L = longL k (L.drop k)
theorem long_start (L : List (List UInt8)) : LongInv L 0 := rfl
theorem drop_line {α : Type} {L : List α} {k : Nat} (hk : k < L.length) : L.drop k = L[k] :: L.drop (k + 1) := List.drop_eq_getElem_cons hk
theorem long_step {L : List (List UInt8)} {k : Nat} (h : LongInv L k) (hk : k < L.length) (h1 : k < 200) (h2 : L[k].length ≤ 200) : LongInv L (k + 1) := by
  unfold LongInv at *
  rw [h, drop_line hk, longL, if_neg (by omega)]
theorem long_bad {L : List (List UInt8)} {k : Nat} (h : LongInv L k) (hk : k < L.length) (h1 : 200 ≤ k ∨ 200 < L[k].length) : longL 0 L = some (k + 1) := by
  rw [h, drop_line hk, longL, if_pos h1]
theorem long_none {L : List (List UInt8)} {k : Nat} (h : LongInv L k) (hk : L.length ≤ k) : longL 0 L = none := by
  rw [h, List.drop_eq_nil_of_le hk, longL]
theorem long_each : ∀ {L : List (List UInt8)} {i : Nat}, longL i L = none → i + L.length ≤ max i 200 ∧ ∀ x ∈ L, x.length ≤ 200
  | [], i, _ => ⟨by simp; omega, by simp⟩
  | l :: r, i, h => by
    unfold longL at h
    split at h
    · cases h
    · have := long_each (L := r) h
      refine ⟨by have := this.1; simp; omega, fun x hx => ?_⟩
      rcases List.mem_cons.1 hx with rfl | hx
      · omega
      · exact this.2 x hx
def TellInv (L : List (List UInt8)) (k : Nat) (P : List (Nat × List (List UInt8))) : Prop := tellL 0 L = (tellL k (L.drop k)).map (P ++ ·)
theorem tell_start (L : List (List UInt8)) : TellInv L 0 [] := by unfold TellInv; rw [List.drop_zero]; cases tellL 0 L <;> simp [Except.map]
theorem tell_skip {L : List (List UInt8)} {k : Nat} {P} (h : TellInv L k P) (hk : k < L.length) (h1 : skipL L[k] = true) : TellInv L (k + 1) P := by
  unfold TellInv at *; rw [h, drop_line hk, tellL, if_pos h1]
theorem tell_empty {L : List (List UInt8)} {k : Nat} {P} (h : TellInv L k P) (hk : k < L.length) (h2 : wordsL L[k] = some []) : TellInv L (k + 1) P := by
  unfold TellInv at *; rw [h, drop_line hk, tellL, h2]; simp
theorem tell_bad {L : List (List UInt8)} {k : Nat} {P} (h : TellInv L k P) (hk : k < L.length) (h1 : skipL L[k] = false) (h2 : wordsL L[k] = none) : tellL 0 L = .error (k + 1) := by
  unfold TellInv at *; rw [h, drop_line hk, tellL, if_neg (by simp [h1]), h2]; rfl
theorem tell_unfit {L : List (List UInt8)} {k : Nat} {P} {D} (h : TellInv L k P) (hk : k < L.length) (h1 : skipL L[k] = false) (h2 : wordsL L[k] = some D) (h3 : D ≠ []) (h4 : fitsL D = false) : tellL 0 L = .error (k + 1) := by
  unfold TellInv at *; rw [h, drop_line hk, tellL, if_neg (by simp [h1]), h2]; simp only [if_neg h3, h4]; rfl
theorem tell_line {L : List (List UInt8)} {k : Nat} {P} {D} (h : TellInv L k P) (hk : k < L.length) (h1 : skipL L[k] = false) (h2 : wordsL L[k] = some D) (h3 : D ≠ []) (h4 : fitsL D = true) : TellInv L (k + 1) (P ++ [(k + 1, D.map (·.1))]) := by
  unfold TellInv at *
  rw [h, drop_line hk, tellL, if_neg (by simp [h1]), h2]; simp only [if_neg h3, h4, if_true]
  cases tellL (k + 1) (L.drop (k + 1)) <;> simp [Except.map]
theorem tell_end {L : List (List UInt8)} {k : Nat} {P} (h : TellInv L k P) (hk : L.length ≤ k) : tellL 0 L = .ok P := by
  rw [h, List.drop_eq_nil_of_le hk, tellL]; simp [Except.map]
theorem parse_long {t : List UInt8} {n : Nat} (h : longL 0 (linesL t) = some n) : parseL t = (n, 2, []) := by unfold parseL; rw [h]
theorem parse_bad {t : List UInt8} {n : Nat} (h : longL 0 (linesL t) = none) (h2 : tellL 0 (linesL t) = .error n) : parseL t = (n, 4, []) := by unfold parseL; rw [h, h2]
theorem parse_ok {t : List UInt8} {P} (h : longL 0 (linesL t) = none) (h2 : tellL 0 (linesL t) = .ok P) : parseL t = (0, 0, P) := by unfold parseL; rw [h, h2]
theorem wordsF_le : ∀ (n : Nat) (s : List UInt8) (D : List (List UInt8 × Bool)), wordsF n s = some D → ∀ x ∈ D, x.1.length ≤ s.length
  | 0, _, _, h => by simp [wordsF] at h
  | n + 1, [], D, h => by simp [wordsF] at h; subst h; simp
  | n + 1, c :: r, D, h => by
    unfold wordsF at h
    have hd : ∀ k, (r.drop k).length ≤ r.length := fun k => by rw [List.length_drop]; omega
    have ht : ∀ p : UInt8 → Bool, (r.takeWhile p).length ≤ r.length := fun p => (List.takeWhile_sublist p).length_le
    split at h
    · intro x hx
      have := wordsF_le n r D h x hx
      simp; omega
    · split at h
      · split at h
        · cases h
        · rename_i r2 hr2
          have h5 := hd (r.takeWhile (· != 34)).length
          rw [hr2, List.length_cons] at h5
          split at h
          · cases h6 : wordsF n r2 with
            | none => rw [h6] at h; cases h
            | some D2 =>
              rw [h6] at h
              simp only [Option.map_some, Option.some.injEq] at h
              subst h
              intro x hx
              rcases List.mem_cons.1 hx with rfl | hx
              · have := ht (· != 34); simp; omega
              · have := wordsF_le n r2 D2 h6 x hx; simp; omega
          · cases h
      · cases h6 : wordsF n (r.drop (r.takeWhile (· != 32)).length) with
        | none => rw [h6] at h; cases h
        | some D2 =>
          rw [h6] at h
          simp only [Option.map_some, Option.some.injEq] at h
          subst h
          intro x hx
          rcases List.mem_cons.1 hx with rfl | hx
          · have := ht (· != 32); simp; omega
          · have := wordsF_le n _ D2 h6 x hx
            have := hd (r.takeWhile (· != 32)).length
            simp; omega
theorem words_le {s : List UInt8} {D} (h : wordsL s = some D) : ∀ x ∈ D, x.1.length ≤ s.length := wordsF_le _ _ _ h
end Go.Proofs.Parse
end
section
namespace Go.Proofs.Parse
open Go Go.Proofs Go.RowKit
theorem rowBelow {w w' : World} {B e size n : Nat} {v : Value} {xs : List Value} (h : w.ownsRow B e size v n xs) (hb : Below w.heap.size w w') : w'.ownsRow B e size v n xs := by
  refine ⟨h.1, ?_⟩
  rcases h.2 with hn | ⟨g, cap, cur, rfl, hg, hgg, rest⟩
  · exact .inl hn
  · exact .inr ⟨g, cap, cur, rfl, hg, by rw [hb.block g (Array.getElem?_eq_some_iff.1 hgg).1]; exact hgg, rest⟩
theorem rowBase {w : World} {B B' e size n : Nat} {v : Value} {xs : List Value} (h : w.ownsRow B e size v n xs) (hb : B' ≤ B) : w.ownsRow B' e size v n xs := by
  refine ⟨h.1, ?_⟩
  rcases h.2 with hn | ⟨g, cap, cur, rfl, hg, hgg, rest⟩
  · exact .inl hn
  · exact .inr ⟨g, cap, cur, rfl, Nat.le_trans hb hg, hgg, rest⟩
theorem rowApart {w : World} {B B' e e' size size' n n' : Nat} {v v' : Value} {xs xs' : List Value} (h : w.ownsRow B e size v n xs) (h' : w.ownsRow B' e' size' v' n' xs') (he : e ≠ e') : v.ownBlock = none ∨ v.ownBlock ≠ v'.ownBlock := by
  rcases h.2 with ⟨rfl, _⟩ | ⟨g, cap, cur, rfl, hg, hgg, _⟩
  · exact .inl rfl
  · refine .inr ?_
    rcases h'.2 with ⟨rfl, _⟩ | ⟨g', cap', cur', rfl, hg', hgg', _⟩
    · simp [Value.ownBlock]
    · simp only [Value.ownBlock, ne_eq, Option.some.injEq]
      rintro rfl
      rw [hgg] at hgg'
      simp only [Option.some.injEq, Obj.cells.injEq] at hgg'
      exact he hgg'.2.1
abbrev LineE := Nat × Value × List ByteArray
def cellsE (E : List LineE) : List Value := E.flatMap fun x => [.int .i64 x.1, x.2.1]
def pl (E : List LineE) : List (Nat × List (List UInt8)) := E.map fun x => (x.1, x.2.2.map (·.data.toList))
theorem cellsE_snoc (E : List LineE) (x : LineE) : cellsE (E ++ [x]) = cellsE E ++ [.int .i64 x.1, x.2.1] := by simp [cellsE]
theorem pl_snoc (E : List LineE) (x : LineE) : pl (E ++ [x]) = pl E ++ [(x.1, x.2.2.map (·.data.toList))] := by simp [pl]
def LinesAt (w : World) (B : Nat) (E : List LineE) : Prop := ∀ x ∈ E, x.2.2 ≠ [] ∧ w.ownsRow B 9 1 x.2.1 x.2.2.length (x.2.2.map Value.string)
theorem LinesAt.nil (w : World) (B : Nat) : LinesAt w B [] := by intro x hx; cases hx
theorem LinesAt.below {w w' : World} {B : Nat} {E : List LineE} (h : LinesAt w B E) (hb : Below w.heap.size w w') : LinesAt w' B E := fun x hx => ⟨(h x hx).1, rowBelow (h x hx).2 hb⟩
theorem LinesAt.kept {w w' : World} {B B' e size n : Nat} {v : Value} {xs : List Value} {E : List LineE} (h : LinesAt w B E) (hr : w.ownsRow B' e size v n xs) (he : e ≠ 9) (hg : w.grownBy w' v.ownBlock) : LinesAt w' B E :=
  fun x hx => ⟨(h x hx).1, (h x hx).2.kept hg (rowApart (h x hx).2 hr (fun e9 => he e9.symm))⟩
theorem LinesAt.snoc {w : World} {B B' : Nat} {E : List LineE} {N : Nat} {V : Value} {D : List ByteArray} (h : LinesAt w B E) (hD : D ≠ []) (hr : w.ownsRow B' 9 1 V D.length (D.map Value.string)) (hB : B ≤ B') : LinesAt w B (E ++ [(N, V, D)]) := by
  intro x hx
  rcases List.mem_append.1 hx with hx | hx
  · exact h x hx
  · simp only [List.mem_singleton] at hx; subst hx; exact ⟨hD, rowBase hr hB⟩
theorem row_words {w : World} {B e : Nat} {v : Value} {D : List (ByteArray × Bool)} (h : w.ownsRow B e 2 v D.length (cellsW D)) (hD : D ≠ []) :
    ∃ g cap, v = .slice (some ⟨g, 0, none⟩) D.length cap ∧ D.length ≤ cap ∧ cap ≤ maxLen ∧ B ≤ g ∧ g < w.heap.size ∧ WordsAt w g D := by
  have hc := fun g hg => h.cells (g := g) hg
  have hlt := h.lt
  rcases h.2 with ⟨_, h0⟩ | ⟨g, cap, cur, rfl, hb, hg, hn, hm, hs, ht⟩
  · exact absurd (List.eq_nil_of_length_eq_zero h0) hD
  · refine ⟨g, cap, rfl, hn, hm, hb, (hlt g rfl).2, fun k hk => ?_⟩
    have hg2 : ∀ (D : List (ByteArray × Bool)) (k : Nat) (hk : k < D.length), (cellsW D)[2 * k]? = some (.string D[k].1) ∧ (cellsW D)[2 * k + 1]? = some (.bool D[k].2) := by
      intro D
      induction D with
      | nil => intro k hk; simp at hk
      | cons a D ih =>
        intro k hk
        match k with
        | 0 => exact ⟨rfl, rfl⟩
        | k + 1 =>
          have := ih k (by simpa using hk)
          exact ⟨by show (cellsW D)[2 * k]? = _; exact this.1, by show (cellsW D)[2 * k + 1]? = _; exact this.2⟩
    have e0 : ∀ j : Nat, ((⟨g, 0, none⟩ : Addr).add j) = ⟨g, j, none⟩ := by intro j; unfold Addr.add; split <;> simp_all
    have h1 := hc g rfl _ _ (hg2 D k hk).1
    have h2 := hc g rfl _ _ (hg2 D k hk).2
    rw [e0] at h1 h2
    exact ⟨h1, h2⟩
theorem row_lines {w : World} {B e : Nat} {v : Value} {E : List LineE} (h : w.ownsRow B e 2 v E.length (cellsE E)) (hE : E ≠ []) :
    ∃ g cap, v = .slice (some ⟨g, 0, none⟩) E.length cap ∧ E.length ≤ cap ∧ cap ≤ maxLen ∧ B ≤ g ∧ g < w.heap.size ∧ ∀ k (hk : k < E.length), w.cell? ⟨g, 2 * k, none⟩ = some (.int .i64 E[k].1) ∧ w.cell? ⟨g, 2 * k + 1, none⟩ = some E[k].2.1 := by
  have hc := fun g hg => h.cells (g := g) hg
  have hlt := h.lt
  rcases h.2 with ⟨_, h0⟩ | ⟨g, cap, cur, rfl, hb, hg, hn, hm, hs, ht⟩
  · exact absurd (List.eq_nil_of_length_eq_zero h0) hE
  · refine ⟨g, cap, rfl, hn, hm, hb, (hlt g rfl).2, fun k hk => ?_⟩
    have hg2 : ∀ (E : List LineE) (k : Nat) (hk : k < E.length), (cellsE E)[2 * k]? = some (.int .i64 E[k].1) ∧ (cellsE E)[2 * k + 1]? = some E[k].2.1 := by
      intro D
      induction D with
      | nil => intro k hk; simp at hk
      | cons a D ih =>
        intro k hk
        match k with
        | 0 => exact ⟨rfl, rfl⟩
        | k + 1 =>
          have := ih k (by simpa using hk)
          exact ⟨by show (cellsE D)[2 * k]? = _; exact this.1, by show (cellsE D)[2 * k + 1]? = _; exact this.2⟩
    have e0 : ∀ j : Nat, ((⟨g, 0, none⟩ : Addr).add j) = ⟨g, j, none⟩ := by intro j; unfold Addr.add; split <;> simp_all
    have h1 := hc g rfl _ _ (hg2 E k hk).1
    have h2 := hc g rfl _ _ (hg2 E k hk).2
    rw [e0] at h1 h2
    exact ⟨h1, h2⟩
end Go.Proofs.Parse
end
