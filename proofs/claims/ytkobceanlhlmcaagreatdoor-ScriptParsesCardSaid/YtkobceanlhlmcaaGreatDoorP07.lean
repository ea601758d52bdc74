/- Part of the proof that card_holds ends in: what the script reader of the program and that of the reference return, line by line. -/
import Derived.Test.YtkobceanlhlmcaaGreatDoorP06
import Derived.Deep.RegionLaw
import Derived.Deep.AppendLies
set_option linter.all false
section
namespace Go.Proofs.Parse
open Go Go.Proofs Go.RowKit
theorem Tryz.info33 : (Tryz.prog.info? 33).map (fun i => (i.zero, i.size, i.bytes)) = some (some (.agg #[.int .i64 0, .slice none 0 0]), 2, 32) := by kernel_rfl
theorem strs_at {w : World} {g : Nat} {qs : List ByteArray} (h : ∀ (k : Nat) (hk : k < qs.length), w.cell? ⟨g, k, none⟩ = some (.string qs[k])) {w1 : World} (hb : Below w.heap.size w w1) (hg : g < w.heap.size) : ∀ (k : Nat) (hk : k < qs.length), w1.cell? ⟨g, k, none⟩ = some (.string qs[k]) := fun k hk => keepC hb (h k hk) hg
theorem nil_size {s : ByteArray} (h : s.data.toList = []) : s = ByteArray.empty := by
  cases s with | mk d => exact congrArg _ (Array.toList_inj.1 h)
set_option maxRecDepth 1000000 in
set_option maxHeartbeats 4000000 in
theorem rparse_any (t : ByteArray) (w : World) (hs : t.size ≤ 20000) :
    Calls Tryz.prog 6 #[.string t] w fun e w' => ParseOut 33 t w e w' := by
  obtain ⟨i9, h9, h90, h91, h92⟩ := info_parts Tryz.info9
  obtain ⟨i32, h32, h320, h321, h322⟩ := info_parts Tryz.info33
  have HLi := Lib.hid (lines_any t w hs)
  go_enter Tryz.func6, Tryz.ntmps6
  go_wp2_with (go_at_call 13
               refine Calls.mono HLi.out ?_
               rintro e wa ⟨v, qs, rfl, hqd, hrow, hqn, hb1⟩
               have HB1 := Lib.hid hb1
               clear hb1)
  obtain ⟨vao, vcap, rfl⟩ := row_slice hrow
  have hlen : (linesL t.data.toList).length = qs.length := by rw [← hqd, List.length_map]
  have HE : Hid (∀ k (hk : k < qs.length), ∃ hk2 : k < (linesL t.data.toList).length, (linesL t.data.toList)[k] = qs[k].data.toList) := by
    show ∀ _, _
    intro k hk
    refine ⟨by omega, ?_⟩
    simp only [← hqd, List.getElem_map]
  have HR : Hid (∀ wr, Below wa.heap.size wa wr → ∀ (k : Nat) (hk : k < qs.length), ∃ g, vao = some ⟨g, 0, none⟩ ∧ wr.cell? ⟨g, k, none⟩ = some (.string qs[k])) := by
    show ∀ _, _
    intro wr hb k hk
    obtain ⟨g, cap, e, _, _, _, hg, hc⟩ := row_strs hrow (by rintro rfl; simp at hk)
    simp only [Value.slice.injEq] at e
    exact ⟨g, e.1, keepC hb (hc k hk) hg⟩
  clear hqd hrow
  go_wp2
  go_loopw [6] (fun i wr => wr = wa ∧ ∃ k : Nat, i = .int .i64 k ∧ k ≤ qs.length ∧ k ≤ 200 ∧ Hid (LongInv (linesL t.data.toList) k)) (fun i _ => qs.length - (intOf i).toNat)
  case atStart => exact ⟨rfl, 0, rfl, Nat.zero_le _, by omega, Lib.hid (long_start _)⟩
  case round =>
    obtain ⟨hwr, k, rfl, hk, hk2, hinv⟩ := hrel
    obtain rfl : wa = wr := hwr.symm
    by_cases hlt : k < qs.length
    · obtain ⟨g, rfl, c⟩ := HR.out wa (Below.refl _ _) k hlt
      obtain ⟨hk3, hk4⟩ := HE.out k hlt
      have hk5 := len_data qs[k]
      by_cases h200 : k = 200
      · have HX := Lib.hid (parse_long (long_bad hinv.out hk3 (.inl (by omega))))
        subst h200
        clear hinv hk4 hk5
        go_wp2
        go_ret3
        exact ⟨_, 201, 2, [], rfl, ⟨HX.out, World.ownsRow_nil _ _ _ _, LinesAt.nil _ _, by simp⟩, HB1.out⟩
      · by_cases hbig : 200 < (qs[k].size : Int)
        · have HX := Lib.hid (parse_long (long_bad hinv.out hk3 (.inr (by rw [hk4]; omega))))
          have h201 : ¬ ((200 : Int) ≤ (k : Int)) := by omega
          clear hinv hk4 hk5
          go_wp2
          go_ret3
          exact ⟨_, k + 1, 2, [], rfl, ⟨HX.out, World.ownsRow_nil _ _ _ _, LinesAt.nil _ _, by simp⟩, HB1.out⟩
        · have HX := Lib.hid (long_step hinv.out hk3 (by omega) (by rw [hk4]; omega))
          have h201 : ¬ ((200 : Int) ≤ (k : Int)) := by omega
          clear hinv hk4 hk5
          go_wp2
          go_roundw
          case rel => exact ⟨trivial, k + 1, by go_num, by omega, by omega, HX⟩
          case measure => (simp [intOf]; omega)
    · obtain rfl : k = qs.length := by omega
      have HLN := Lib.hid (long_none hinv.out (by omega))
      clear hinv
      go_wp2
      go_loopw [7, 8] (fun out i wr => ∃ (k : Nat) (E : List LineE), i = .int .i64 k ∧ k ≤ qs.length ∧ wr.ownsRow wa.heap.size 33 2 out E.length (cellsE E) ∧ Below wa.heap.size wa wr ∧ LinesAt wr w.heap.size E ∧ E.length ≤ k ∧ Hid (TellInv (linesL t.data.toList) k (pl E))) (fun _ i _ => qs.length - (intOf i).toNat)
      case atStart => exact ⟨0, [], rfl, Nat.zero_le _, World.ownsRow_nil _ _ _ _, Below.refl _ _, LinesAt.nil _ _, by simp, Lib.hid (tell_start _)⟩
      case round =>
        obtain ⟨k, E, rfl, hk, hown, hb, hla, hE, hinv⟩ := hrel
        have HB := Lib.hid hb
        have HLA := Lib.hid hla
        have HLE := Lib.hid (long_each HLN.out)
        clear hb hla
        have hsz := HB.out.size
        by_cases hlt : k < qs.length
        · obtain ⟨g0, rfl, c⟩ := HR.out wr HB.out k hlt
          obtain ⟨hk3, hk4⟩ := HE.out k hlt
          have hk5 := len_data qs[k]
          have hk6 : qs[k].size ≤ 200 := by rw [← hk5, ← hk4]; exact HLE.out.2 _ (List.getElem_mem _)
          generalize qs[k] = s at *
          by_cases h0 : s.size = 0
          · have j1 : s.toList = [] := by rw [ByteArray.toList_eq]; exact List.eq_nil_of_length_eq_zero (by omega)
            have j2 : s.toList.isEmpty = true := by rw [j1]; rfl
            have HI := Lib.hid (tell_skip hinv.out hk3 (by rw [hk4, ← ByteArray.toList_eq, j1]; rfl))
            clear hinv hk4 hk5 h0
            go_wp2
            go_roundw
            case rel => exact ⟨k + 1, E, by go_num, by omega, hown, HB.out, HLA.out, by omega, HI.out⟩
            case measure => (simp [intOf]; omega)
          · have hpos : 0 < s.size := by omega
            have j2 : s.toList.isEmpty = false := by
              rw [ByteArray.toList_eq]
              cases h : s.data.toList with
              | nil => rw [h] at hk5; simp at hk5; omega
              | cons _ _ => rfl
            have j1 : ¬ s.toList = [] := by intro h; rw [h] at j2; simp at j2
            have hd : s.data.toList = s[0]'hpos :: s.data.toList.drop 1 := by
              have hg := getEl s 0 hpos
              cases hd : s.data.toList with
              | nil => rw [hd] at hg; simp at hg
              | cons c r => rw [hd] at hg; simp only [List.getElem?_cons_zero, Option.some.injEq] at hg; rw [hg]; rfl
            by_cases hc : ((s[0]'hpos).toNat : Int) = 35
            · have HI := Lib.hid (tell_skip hinv.out hk3 (by rw [hk4, hd]; show (_ == _) = true; rw [beq_iff_eq]; exact UInt8.toNat_inj.1 (Int.ofNat.inj hc)))
              clear hinv hk4 hk5 h0 hd
              go_wp2
              go_roundw
              case rel => exact ⟨k + 1, E, by go_num, by omega, hown, HB.out, HLA.out, by omega, HI.out⟩
              case measure => (simp [intOf]; omega)
            · have hc2 : (((s[0]'hpos).toNat : Int) == 35) = false := by rw [beq_eq_false_iff_ne]; exact hc
              have HSk : Hid (skipL s.data.toList = false) := by
                show _ = _
                rw [hd]; show (_ == _) = false
                rw [beq_eq_false_iff_ne]
                intro h
                exact hc (by rw [h]; rfl)
              have HW := Lib.hid (rwords_any s wr (by omega))
              clear hd hc
              go_wp2_with (first
                | (go_at_call 14
                   refine Calls.mono HW.out ?_
                   rintro e w1 ⟨v, ok, D, rfl, hyes, hno, hbw⟩
                   have HBW := Lib.hid hbw
                   clear hbw
                   cases ok
                   case' false =>
                     have HNo := Lib.hid (hno rfl)
                     clear hyes hno
                   case' true =>
                     obtain ⟨hwd, hrow, hDl⟩ := hyes rfl
                     have HWd := Lib.hid hwd
                     clear hyes hno hwd
                     by_cases hD0 : D = []
                     case' pos =>
                       subst hD0
                       obtain ⟨ao, vcap, rfl⟩ := row_empty hrow
                     case' neg =>
                       obtain ⟨g, cap, rfl, hcap, hcm, hbg, hg, hWA⟩ := row_words hrow hD0
                       have hDp := List.length_pos_iff.2 hD0
                       have HFt := Lib.hid (right_any g cap D w1 hWA hDp (by omega) hg (fun i hi => by
                         have := words_le HWd.out _ (List.mem_map.2 ⟨D[i], List.getElem_mem hi, rfl⟩)
                         simp only [len_data] at this
                         omega))
                       have HWA := Lib.hid hWA
                       have hd0 : ((D.length : Int) == 0) = false := by rw [beq_eq_false_iff_ne]; omega
                       have hd1 : ¬ ((D.length : Int) = 0) := by omega
                       clear hWA)
                | (go_at_call 15
                   refine Calls.mono HFt.out ?_
                   rintro e w2 ⟨rfl, hb2⟩
                   have HB2 := Lib.hid hb2
                   clear hb2
                   cases hf : fitsL (wl D)))
              all_goals (first
                | (go_ret3; exact ⟨_, k + 1, 4, [], rfl, ⟨parse_bad HLN.out (tell_bad hinv.out hk3 (by rw [hk4]; exact HSk.out) (by rw [hk4]; exact HNo.out)), World.ownsRow_nil _ _ _ _, LinesAt.nil _ _, by simp⟩, HB1.out.trans ((HB.out.trans (HBW.out.mono hsz)).mono (by have := HB1.out.size; omega))⟩)
                | (go_ret3; exact ⟨_, k + 1, 4, [], rfl, ⟨parse_bad HLN.out (tell_unfit hinv.out hk3 (by rw [hk4]; exact HSk.out) (by rw [hk4]; exact HWd.out) (wl_ne hD0) hf), World.ownsRow_nil _ _ _ _, LinesAt.nil _ _, by simp⟩, HB1.out.trans ((HB.out.trans ((HBW.out.trans (HB2.out.mono HBW.out.size)).mono hsz)).mono (by have := HB1.out.size; omega))⟩)
                | exact ⟨⟨k + 1, E, by go_num, by omega, rowBelow hown HBW.out, HB.out.trans (HBW.out.mono hsz), HLA.out.below HBW.out, by omega, Lib.hid (tell_empty hinv.out hk3 (by rw [hk4]; exact HWd.out))⟩, by (simp [intOf]; omega)⟩
                | skip)
              obtain ⟨wx, hwx⟩ : ∃ wx, w2.alloc (Obj.cells #[Value.int IntKind.i64 ((k : Int) + 1), Value.slice none 0 0] 33) = wx := ⟨_, rfl⟩
              rw [hwx]
              have HPx : Hid (PairAt wx w2.heap.size 33 (.int .i64 ((k : Int) + 1)) (.slice none 0 0)) := by rw [← hwx]; exact PairAt.new _ _ _ _
              have HBx : Hid (Below w2.heap.size w2 wx) := by rw [← hwx]; exact (Below.refl _ w2).alloc (Nat.le_refl _) _
              have hg2 : g < w2.heap.size := by have := HB2.out.size; omega
              have HW2 := Lib.hid (HWA.out.below HB2.out hg)
              clear hwx hrow
              go_loopw [12] (fun i w3 => ∃ (j : Nat) (V : Value), i = .int .i64 j ∧ j ≤ D.length ∧ Below w2.heap.size w2 w3 ∧ PairAt w3 w2.heap.size 33 (.int .i64 ((k : Int) + 1)) V ∧ w3.ownsRow (w2.heap.size + 1) 9 1 V j ((D.take j).map (fun x => Value.string x.1))) (fun i _ => D.length - (intOf i).toNat)
              case atStart => exact ⟨0, _, rfl, Nat.zero_le _, HBx.out, HPx.out, World.ownsRow_nil _ _ _ _⟩
              case round =>
                obtain ⟨j, V, rfl, hj, hb3, hpr, hown3⟩ := hrel
                have HB3 := Lib.hid hb3
                have HPR := Lib.hid hpr
                clear hb3
                by_cases hjl : j < D.length
                · obtain ⟨c1, c2⟩ := HW2.out.below HB3.out hg2 j hjl
                  rw [Nat.mul_comm] at c1 c2
                  have c3 := hpr.c1
                  have f3 := hpr.fz (o := 1)
                  have hX := hpr.lt
                  clear hpr
                  have hDl2 : D.length ≤ 200 := by omega
                  have hB3s := HB3.out.size
                  go_wp2
                  go_region_law (refine step_append_lies _ (by rfl) _ _ _ (by rfl) (w2.heap.size + 1) 9 i9 (.string ByteArray.empty) 1 16 Tryz.underlying30 h9 h90 h91 h92 rfl (by decide) V j ((D.take j).map (fun x => Value.string x.1)) (by rfl) (by first | exact hown3.drew.alloc _ | exact (hown3.alloc _).drew) ⟨wr.heap.size, 0, none⟩ 1 1 [.string D[j].1] (by rfl) (by rfl) (World.news_of_block (cs := #[.string D[j].1]) (t := 9) (fr := (0, 0)) (heap_alloc_new _ _)) (c2_str _) (by omega) (by unfold maxLen; omega) (by omega) (by simp; omega) (wr.heap.size + 1) (by simp) ?_; intro g4 cap4 w4 hown4 hgrow4 hat hlt4; have hpr4 := ((show PairAt wr.drew w2.heap.size 33 (.int .i64 ((k : Int) + 1)) V from HPR.out).alloc _).grown hown3 (by omega) hgrow4; have c4 := hpr4.c1; have f4 := hpr4.fz (o := 1))
                  all_goals (
                    go_wp2
                    refine ⟨⟨j + 1, _, by go_num, by omega, ?_, hpr4.set _, ?_⟩, by (simp [intOf]; omega)⟩
                    · exact (Below.grown ((below_drew HB3.out).alloc (by show _ ≤ wr.heap.size; omega) _) hgrow4 (by simp; omega) (fun b hb => by have := (hown3.lt b hb).1; omega)).setCell (Nat.le_refl _) _
                    · rw [List.take_succ_eq_append_getElem hjl, List.map_append]
                      exact ownsRow_setCell_below hown4 (Nat.lt_succ_self _) _)
                · obtain rfl : j = D.length := by omega
                  rw [List.take_length] at hown3
                  have hB3s := HB3.out.size
                  have hnow := rowBelow (rowBelow (rowBelow hown HBW.out) HB2.out) HB3.out
                  have HLnow := Lib.hid (((HLA.out.below HBW.out).below HB2.out).below HB3.out)
                  obtain ⟨vo, vc, rfl⟩ := row_slice hown3
                  have c3 := hpr.c0
                  have c4 := hpr.c1
                  have HT := Lib.hid (tell_line hinv.out hk3 (by rw [hk4]; exact HSk.out) (by rw [hk4]; exact HWd.out) (wl_ne hD0) hf)
                  have hws : w.heap.size ≤ w2.heap.size := by have := HB1.out.size; have := HBW.out.size; have := HB2.out.size; omega
                  have hEl : E.length ≤ 200 := by have := HLE.out.1; omega
                  clear hpr hown hf
                  go_wp2_with (at_builtin; refine wpList_append_own _ rfl _ _ 27 rfl wa.heap.size 33 i32 (.agg #[.int .i64 0, .slice none 0 0]) 2 32 Tryz.underlying27 h32 h320 h321 h322 rfl (by decide) _ _ _ rfl (hnow.alloc _) ⟨wr.heap.size, 0, none⟩ 1 1 [.int .i64 ((k : Int) + 1), .slice vo D.length vc] rfl rfl (c1_two _ _ _ _) (c2_line _ _ _ _) (by unfold maxLen; omega) (by omega) (by simp; omega) ?_; intro V' w4 hown4 hgrow4 _)
                  refine ⟨⟨k + 1, E ++ [(k + 1, .slice vo D.length vc, D.map (·.1))], by go_num, by omega, ?_, ?_, ?_, by simp; omega, ?_⟩, by (simp [intOf]; omega)⟩
                  · rw [cellsE_snoc, List.length_append]; exact hown4
                  · have hall := HB.out.trans (((HBW.out.trans (HB2.out.mono HBW.out.size)).trans (HB3.out.mono (by have := HBW.out.size; have := HB2.out.size; omega))).mono hsz)
                    exact Below.grown (hall.alloc hall.size _) hgrow4 (by have := hall.size; simp; omega) (fun b hb => (hnow.lt b hb).1)
                  · exact lines_snoc HLnow.out hD0 hown3 (by omega) hnow (by decide) _ hgrow4
                  · rw [pl_snoc]
                    have := HT.out
                    rw [wl_fst] at this
                    exact this
        · obtain rfl : k = qs.length := by omega
          have HX := Lib.hid (parse_ok HLN.out (tell_end hinv.out (by omega)))
          clear hinv
          go_wp2
          go_ret3
          exact ⟨_, 0, 0, E, rfl, ⟨HX.out, rowBase hown (by have := HB1.out.size; omega), HLA.out, by have := HLE.out.1; omega⟩, HB1.out.trans (HB.out.mono (by have := HB1.out.size; omega))⟩
end Go.Proofs.Parse
end
