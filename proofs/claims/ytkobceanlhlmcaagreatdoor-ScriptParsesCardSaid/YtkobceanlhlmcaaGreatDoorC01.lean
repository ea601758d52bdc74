/- Part of the proof that card_holds ends in: facts on the row and the card. -/
import Derived.Test.YtkobceanlhlmcaaGreatDoorP07
import Derived.Test.YtkobceanlhlmcaaGreatDoorR12
set_option linter.all false
section
namespace Go.Proofs.Parse
open Go Go.Proofs Go.RowKit
theorem ba_ext {a b : ByteArray} (h : a.data.toList = b.data.toList) : a = b := by
  cases a with | mk x => cases b with | mk y => exact congrArg _ (Array.toList_inj.1 h)
theorem bas_ext : ∀ {a b : List ByteArray}, a.map (·.data.toList) = b.map (·.data.toList) → a = b
  | [], [], _ => rfl
  | [], _ :: _, h => by simp at h
  | _ :: _, [], h => by simp at h
  | x :: a, y :: b, h => by
    simp only [List.map_cons, List.cons.injEq] at h
    rw [ba_ext h.1, bas_ext h.2]
theorem pl_at {E1 E2 : List LineE} (h : pl E1 = pl E2) (k : Nat) (h1 : k < E1.length) (h2 : k < E2.length) : E1[k].1 = E2[k].1 ∧ E1[k].2.2 = E2[k].2.2 := by
  have e := congrArg (fun l => l[k]?) h
  simp only [pl, List.getElem?_map, List.getElem?_eq_getElem h1, List.getElem?_eq_getElem h2, Option.map_some, Option.some.injEq, Prod.mk.injEq] at e
  exact ⟨e.1, bas_ext e.2⟩
set_option maxRecDepth 1000000 in
set_option maxHeartbeats 4000000 in
theorem script_any (t : ByteArray) (m : Int) (w : World) (hm : w.cell? ⟨0, 0, none⟩ = some (.int .i64 m)) :
    Calls Tryz.prog 3 #[.string t] w fun e w' => e = .returned (.bool true) ∧ Below w.heap.size w w' := by
  by_cases hbig : 20000 < (t.size : Int)
  · have HL := Lib.hid (Go.Ev.lives_any w)
    go_enter Tryz.func3, Tryz.ntmps3
    go_wp2_with (go_at_call 4; refine Calls.mono HL.out ?_; rintro e w1 ⟨rfl, hb⟩; have HB := Lib.hid hb; clear hb)
    go_ret
    exact ⟨rfl, HB.out⟩
  · have hs : t.size ≤ 20000 := by omega
    have HP := Lib.hid (parse_any t m w hs hm)
    go_enter Tryz.func3, Tryz.ntmps3
    go_wp2_with (first
      | (go_at_call 5
         refine Calls.mono HP.out ?_
         rintro e w1 ⟨v1, n1, z1, E1, rfl, ⟨hp1, hr1, hl1, hn1⟩, hb1⟩
         have HB1 := Lib.hid hb1
         have HR1 := Lib.hid (rparse_any t w1 hs)
         obtain ⟨a1, c1, rfl⟩ := row_slice hr1
         clear hb1)
      | (go_at_call 6
         refine Calls.mono HR1.out ?_
         rintro e w2 ⟨v2, n2, z2, E2, rfl, ⟨hp2, hr2, hl2, hn2⟩, hb2⟩
         have HB2 := Lib.hid hb2
         obtain ⟨a2, c2, rfl⟩ := row_slice hr2
         rw [hp1] at hp2
         simp only [Prod.mk.injEq] at hp2
         obtain ⟨rfl, rfl, hpl⟩ := hp2
         have HPL := Lib.hid hpl
         have hlen : E1.length = E2.length := by have := congrArg List.length hpl; simpa [pl] using this
         have hne1 : ((n1 : Int) != (n1 : Int)) = false := by rw [bne_eq_false_iff_eq]
         have hne2 : ((z1 : Int) != (z1 : Int)) = false := by rw [bne_eq_false_iff_eq]
         have hne3 : ((E1.length : Int) != (E2.length : Int)) = false := by rw [bne_eq_false_iff_eq]; omega
         clear hb2 hpl))
    have hr1' := rowBelow hr1 HB2.out
    have HL1 := Lib.hid (hl1.below HB2.out)
    have HL2 := Lib.hid hl2
    have HR1' := Lib.hid hr1'
    have HR2 := Lib.hid hr2
    clear hr1 hl1 hl2 hr2 hr1'
    go_loopw [9] (fun i wr => ∃ k : Nat, i = .int .i64 k ∧ k ≤ E1.length ∧ Below w2.heap.size w2 wr) (fun i _ => E1.length - (intOf i).toNat)
    case atStart => exact ⟨0, rfl, Nat.zero_le _, Below.refl _ _⟩
    case round =>
      obtain ⟨k, rfl, hk, hb⟩ := hrel
      have HB := Lib.hid hb
      clear hb
      by_cases hlt : k < E1.length
      · have hlt2 : k < E2.length := by omega
        obtain ⟨g1, cc1, e1, _, _, _, _, hc1⟩ := row_lines (rowBelow HR1'.out HB.out) (by rintro rfl; simp at hlt)
        obtain ⟨g2, cc2, e2, _, _, _, _, hc2⟩ := row_lines (rowBelow HR2.out HB.out) (by rintro rfl; simp at hlt2)
        simp only [Value.slice.injEq] at e1 e2
        obtain ⟨rfl, -, rfl⟩ := e1
        obtain ⟨rfl, -, rfl⟩ := e2
        obtain ⟨p1, p2⟩ := hc1 k hlt
        obtain ⟨q1, q2⟩ := hc2 k hlt2
        obtain ⟨x1, x2⟩ := pl_at HPL.out k hlt hlt2
        obtain ⟨y1, y2⟩ := HL1.out.below HB.out E1[k] (List.getElem_mem hlt)
        obtain ⟨z1', z2'⟩ := HL2.out.below HB.out E2[k] (List.getElem_mem hlt2)
        obtain ⟨h1, d1, f1, dl1, dl2, _, _, s1⟩ := row_strs y2 y1
        obtain ⟨h2, d2, f2, _, _, _, _, s2⟩ := row_strs z2' z1'
        rw [f1] at p2
        rw [f2] at q2
        rw [← x1] at q1
        rw [← x2] at q2
        have hD200 : E1[k].2.2.length ≤ 9223372036854775807 := by unfold maxLen at dl2; omega
        have HSm := Lib.hid (fun n => same_any h1 h2 d1 d2 E1[k].2.2 (wr.drewN n) s1 (fun j hj => by have := s2 j (by rw [← x2]; exact hj); simp only [← x2] at this; exact this) hD200)
        rw [Nat.mul_comm] at p1 p2 q1 q2
        have hN : ((E1[k].1 : Int) != (E1[k].1 : Int)) = false := by rw [bne_eq_false_iff_eq]
        clear f1 f2 s1 s2 y1 y2 z1' z2' x1 x2 hc1 hc2
        generalize E1[k].2.2 = DD at *
        generalize E1[k].1 = NN at *
        go_wp2
        go_quiet ((go_at_call 7; exact Calls.quiet_of (HSm.out _)))
        clear p1 p2 q1 q2
        go_wp2
        go_roundw
        case rel => exact ⟨k + 1, by go_num, by omega, HB.out.trans (drewN_below _ _ _)⟩
        case measure => (simp [intOf]; omega)
      · obtain rfl : k = E1.length := by omega
        have HL := Lib.hid (Go.Ev.lives_any wr)
        go_wp2_with (go_at_call 4; refine Calls.mono HL.out ?_; rintro e w1 ⟨rfl, hb⟩; have HB4 := Lib.hid hb; clear hb)
        go_ret
        exact ⟨rfl, HB1.out.trans ((HB2.out.trans ((HB.out.trans (HB4.out.mono HB.out.size)).mono HB2.out.size)).mono HB1.out.size)⟩
end Go.Proofs.Parse
end
