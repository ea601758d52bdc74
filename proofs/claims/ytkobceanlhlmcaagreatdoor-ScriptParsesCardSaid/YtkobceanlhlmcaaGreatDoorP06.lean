/- Part of the proof that card_holds ends in: what the script reader of the program and that of the reference return, line by line. -/
import Derived.Test.YtkobceanlhlmcaaGreatDoorP05
import Derived.Deep.QuietTactic
import Derived.Maps.AppendAt
set_option linter.all false
section
namespace Go.Proofs.Parse
open Go Go.Proofs Go.RowKit
theorem drewN_below (w : World) (B : Nat) : ∀ m, Below B w (w.drewN m) := by
  intro m
  exact ⟨rfl, rfl, rfl, Nat.le_refl _, fun _ _ => rfl⟩
set_option maxRecDepth 1000000 in
theorem same_any (g1 g2 c1 c2 : Nat) (D : List ByteArray) (w : World) (h1 : ∀ k (hk : k < D.length), w.cell? ⟨g1, k, none⟩ = some (.string D[k])) (h2 : ∀ k (hk : k < D.length), w.cell? ⟨g2, k, none⟩ = some (.string D[k])) (hn : D.length ≤ 9223372036854775807) :
    Calls Tryz.prog 7 #[.slice (some ⟨g1, 0, none⟩) D.length c1, .slice (some ⟨g2, 0, none⟩) D.length c2] w fun e w' => e = .returned (.bool true) ∧ ∃ m, w' = w.drewN m := by
  have H1 := Lib.hid h1
  have H2 := Lib.hid h2
  clear h1 h2
  have hne : ((D.length : Int) != (D.length : Int)) = false := by rw [bne_eq_false_iff_eq]
  go_enter Tryz.func7, Tryz.ntmps7
  go_wp2
  go_loopw [5] (fun i wr => ∃ k m : Nat, i = .int .i64 k ∧ k ≤ D.length ∧ wr = w.drewN m) (fun i _ => D.length - (intOf i).toNat)
  case atStart => exact ⟨0, 0, rfl, Nat.zero_le _, rfl⟩
  case round =>
    obtain ⟨k, m, rfl, hk, rfl⟩ := hrel
    by_cases hlt : k < D.length
    · have f1 : w.cell? ⟨g1, k, none⟩ = some (.string D[k]) := H1.out k hlt
      have f2 : w.cell? ⟨g2, k, none⟩ = some (.string D[k]) := H2.out k hlt
      have hee : (D[k].data.toList != D[k].data.toList) = false := by rw [bne_eq_false_iff_eq]
      go_wp2
      go_quiet (fail)
      clear f1 f2
      go_wp2
      go_roundw
      case rel => exact ⟨k + 1, m + nq, by go_num, by omega, rfl⟩
      case measure => (simp [intOf]; omega)
    · obtain rfl : k = D.length := by omega
      go_wp2
      go_ret
      exact ⟨rfl, m, rfl⟩
end Go.Proofs.Parse
end
section
namespace Go.Proofs.Parse
open Go Go.Proofs Go.RowKit
def PairAt (w : World) (X : Nat) (e : TypeId) (a b : Value) : Prop := w.heap[X]? = some (.cells #[a, b] e (0, 0))
theorem PairAt.c0 {w : World} {X : Nat} {e : TypeId} {a b : Value} (h : PairAt w X e a b) : w.cell? ⟨X, 0, none⟩ = some a := by
  unfold PairAt at h; simp [World.cell?, h]
theorem PairAt.c1 {w : World} {X : Nat} {e : TypeId} {a b : Value} (h : PairAt w X e a b) : w.cell? ⟨X, 1, none⟩ = some b := by
  unfold PairAt at h; simp [World.cell?, h]
theorem PairAt.fz {w : World} {X o : Nat} {e : TypeId} {a b : Value} (h : PairAt w X e a b) : w.frozen? ⟨X, o, none⟩ = false := by
  unfold PairAt at h; simp [World.frozen?, h]
theorem PairAt.lt {w : World} {X : Nat} {e : TypeId} {a b : Value} (h : PairAt w X e a b) : X < w.heap.size := by
  unfold PairAt at h; exact (Array.getElem?_eq_some_iff.1 h).1
theorem PairAt.set {w : World} {X : Nat} {e : TypeId} {a b : Value} (h : PairAt w X e a b) (u : Value) : PairAt (w.setCell ⟨X, 1, none⟩ u) X e a u := by
  have hl := h.lt
  unfold PairAt at *
  have h2 := (Array.getElem?_eq_some_iff.1 h).2
  simp [World.setCell, hl, Array.getElem_modify, h2]
theorem PairAt.kept {w w' : World} {X : Nat} {e : TypeId} {a b : Value} (h : PairAt w X e a b) (hh : w'.heap[X]? = w.heap[X]?) : PairAt w' X e a b := hh.trans h
theorem PairAt.alloc {w : World} {X : Nat} {e : TypeId} {a b : Value} (h : PairAt w X e a b) (o : Obj) : PairAt (w.alloc o) X e a b := h.kept (heap_alloc_old w o h.lt)
theorem PairAt.new (w : World) (e : TypeId) (a b : Value) : PairAt (w.alloc (.cells #[a, b] e)) w.heap.size e a b := heap_alloc_new w _
theorem c1_at (wr : World) (x : Value) (e : TypeId) (n : Nat) (hn : n = wr.heap.size) : ∀ (j : Nat) (u : Value), [x][j]? = some u → (wr.alloc (.cells #[x] e)).cell? ((⟨n, 0, none⟩ : Addr).add j) = some u := by
  subst hn; exact c1_one wr x e
theorem row_slice {w : World} {B e size n : Nat} {v : Value} {xs : List Value} (h : w.ownsRow B e size v n xs) : ∃ ao cap, v = .slice ao n cap := by
  rcases h.2 with ⟨rfl, rfl⟩ | ⟨g, cap, cur, rfl, _⟩
  · exact ⟨_, _, rfl⟩
  · exact ⟨_, _, rfl⟩
theorem PairAt.grown {w w0 w' : World} {X B e' size n : Nat} {e : TypeId} {a b v : Value} {xs : List Value} (h : PairAt w0 X e a b) (hr : w.ownsRow B e' size v n xs) (hB : X < B) (hg : w0.grownBy w' v.ownBlock) : PairAt w' X e a b :=
  h.kept (hg.block X h.lt (fun hx => by have := (hr.lt X hx.symm).1; omega))
theorem wl_fst (D : List (ByteArray × Bool)) : (wl D).map (·.1) = (D.map (·.1)).map (·.data.toList) := by simp [wl]
theorem c2_line (n : Int) (ao : Option Addr) (l c : Nat) : ∀ u ∈ [Value.int .i64 n, Value.slice ao l c], u.oneCell' = true := by
  intro u hu; simp at hu; rcases hu with rfl | rfl <;> rfl
theorem lines_snoc {w w1 : World} {B B2 X k : Nat} {e : TypeId} {V out : Value} {xs : List Value} {E : List LineE} {D : List (ByteArray × Bool)} (h : LinesAt w B E) (hD : D ≠ []) (hr : w.ownsRow X 9 1 V D.length (D.map (fun x => Value.string x.1))) (hBX : B ≤ X) (hout : w.ownsRow B2 e 2 out E.length xs) (he : e ≠ 9) (o : Obj) (hg : (w.alloc o).grownBy w1 out.ownBlock) :
    LinesAt w1 B (E ++ [(k, V, D.map (·.1))]) := by
  have h1 : LinesAt (w.alloc o) B (E ++ [(k, V, D.map (·.1))]) := by
    refine LinesAt.snoc (B' := X) (h.below ((Below.refl _ w).alloc (Nat.le_refl _) o)) (by simpa using hD) ?_ hBX
    have := hr.alloc o
    rw [List.length_map, List.map_map]
    exact this
  exact h1.kept (hout.alloc o) he hg
end Go.Proofs.Parse
end
section
namespace Go.Proofs.Parse
open Go Go.Proofs Go.RowKit
theorem Tryz.info32 : (Tryz.prog.info? 32).map (fun i => (i.zero, i.size, i.bytes)) = some (some (.agg #[.int .i64 0, .slice none 0 0]), 2, 32) := by kernel_rfl
def Parsed (e : TypeId) (t : List UInt8) (B : Nat) (v : Value) (n z : Nat) (E : List LineE) (w' : World) : Prop :=
  parseL t = (n, z, pl E) ∧ w'.ownsRow B e 2 v E.length (cellsE E) ∧ LinesAt w' B E ∧ E.length ≤ 200
def ParseOut (ty : TypeId) (t : ByteArray) (w : World) (e : Ending) (w' : World) : Prop := ∃ (v : Value) (n z : Nat) (E : List LineE), e = .returned (.tuple #[v, .int .i64 n, .int .i64 z]) ∧ Parsed ty t.data.toList w.heap.size v n z E w' ∧ Below w.heap.size w w'
theorem split_lines {t : List UInt8} {ps : List ByteArray} (h : ps.map (·.data.toList) = splitL 10 t) (x : ByteArray) (hx : ps.getLast? = some x) :
    linesL t = (if x.size = 0 then ps.dropLast else ps).map (·.data.toList) := by
  have h1 : (splitL 10 t).getLast? = some x.data.toList := by rw [← h, List.getLast?_map, hx]; rfl
  unfold linesL
  rw [h1]
  by_cases hs : x.size = 0
  · have : x.data.toList = [] := List.eq_nil_of_length_eq_zero (by have := len_data x; omega)
    rw [this, if_pos rfl, if_pos hs, ← h, List.map_dropLast]
  · rw [if_neg, if_neg hs, h]
    intro e
    simp only [Option.some.injEq] at e
    have := len_data x
    rw [e] at this
    simp at this; omega
theorem alloc_strs (w : World) (ps : List ByteArray) (k : Nat) (hk : k < ps.length) : (w.alloc (.cells (ps.map Value.string).toArray 9)).cell? ⟨w.heap.size, k, none⟩ = some (.string ps[k]) :=
  pieces_cell (Below.refl _ _) k hk
theorem last_at {ps : List ByteArray} (h : ps ≠ []) : ∃ x, ps.getLast? = some x ∧ ∃ h' : ps.length - 1 < ps.length, ps[ps.length - 1] = x := by
  have h1 : 0 < ps.length := List.length_pos_iff.2 h
  refine ⟨ps[ps.length - 1]'(by omega), ?_, by omega, rfl⟩
  rw [List.getLast?_eq_getElem?, List.getElem?_eq_getElem (by omega)]
theorem skip_of {s : List UInt8} (h : Lib.hasPrefix s [35] = false) (h1 : s ≠ []) : skipL s = false := by
  cases s with
  | nil => exact absurd rfl h1
  | cons c r =>
    simp only [Lib.hasPrefix, List.isPrefixOf, Bool.and_eq_false_imp, List.isPrefixOf_nil_left] at h
    show (c == 35) = false
    cases hc : (c == 35) with
    | false => rfl
    | true => rw [show (35 == c) = true by rw [beq_iff_eq] at hc ⊢; exact hc.symm] at h; simp at h
theorem skip_yes {s : List UInt8} (h : Lib.hasPrefix s [35] = true) : skipL s = true := by
  cases s with
  | nil => rfl
  | cons c r =>
    simp only [Lib.hasPrefix, List.isPrefixOf, Bool.and_eq_true, beq_iff_eq] at h
    show (c == 35) = true
    rw [beq_iff_eq]; exact h.1.symm
theorem wl_ne {D : List (ByteArray × Bool)} (h : D ≠ []) : wl D ≠ [] := by cases D <;> simp_all [wl]
theorem row_empty {w : World} {B e size : Nat} {v : Value} {xs : List Value} (h : w.ownsRow B e size v 0 xs) : ∃ ao cap, v = .slice ao 0 cap := by
  rcases h.2 with ⟨rfl, _⟩ | ⟨g, cap, cur, rfl, _⟩
  · exact ⟨_, _, rfl⟩
  · exact ⟨_, _, rfl⟩
set_option maxRecDepth 1000000 in
set_option maxHeartbeats 4000000 in
theorem parse_any (t : ByteArray) (m : Int) (w : World) (hs : t.size ≤ 20000) (hm : w.cell? ⟨0, 0, none⟩ = some (.int .i64 m)) :
    Calls Tryz.prog 5 #[.string t] w fun e w' => ParseOut 32 t w e w' := by
  obtain ⟨ps, hps, HSp⟩ : ∃ ps : List ByteArray, ps.map (·.data.toList) = splitL 10 t.data.toList ∧ Hid (Calls Tryz.prog 9 #[.string t, .string ⟨#[10]⟩] w fun e w' => e = .returned (.slice (some ⟨w.heap.size, 0, none⟩) ps.length ps.length) ∧ w' = w.alloc (.cells (ps.map Value.string).toArray 9)) := by
    obtain ⟨ps, hps⟩ : ∃ ps : List ByteArray, ps.map (·.data.toList) = splitL 10 t.data.toList := ⟨(splitL 10 t.data.toList).map (fun l => ⟨l.toArray⟩), by rw [List.map_map]; exact (List.map_congr_left (fun a _ => rfl)).trans (List.map_id _)⟩
    refine ⟨ps, hps, Lib.hid ((split_any 10 t m w (by omega) hm).mono ?_)⟩
    rintro e w1 ⟨qs, hqs, rfl, rfl⟩
    have : qs = ps := by
      have h := hqs.trans hps.symm
      clear hqs hps
      induction qs generalizing ps with
      | nil => cases ps with
        | nil => rfl
        | cons a l => simp at h
      | cons a l ih => cases ps with
        | nil => simp at h
        | cons b r =>
          simp only [List.map_cons, List.cons.injEq] at h
          have h1 : a = b := by
            cases a with | mk x => cases b with | mk y => exact congrArg _ (Array.toList_inj.1 h.1)
          rw [h1, ih r h.2]
    subst this
    exact ⟨rfl, rfl⟩
  obtain ⟨i9, h9, h90, h91, h92⟩ := info_parts Tryz.info9
  obtain ⟨i32, h32, h320, h321, h322⟩ := info_parts Tryz.info32
  have HM := Lib.hid hm
  have hw0 : 0 < w.heap.size := World.block_lt_of_cell? w ⟨0, 0, none⟩ hm
  clear hm
  have hne : ps ≠ [] := by rintro rfl; exact splitL_ne 10 _ hps.symm
  obtain ⟨x, hx, hxl, hx2⟩ := last_at hne
  have hpl : ps.length ≤ t.size + 1 := by
    have := congrArg List.length hps
    rw [List.length_map, splitL_length] at this
    have h2 := List.count_le_length (a := (10 : UInt8)) (l := t.data.toList)
    rw [len_data] at h2
    omega
  have hlin := split_lines hps x hx
  have hpos := List.length_pos_iff.2 hne
  have hcl := alloc_strs w ps (ps.length - 1) hxl
  rw [hx2] at hcl
  have HC0 := Lib.hid (alloc_strs w ps)
  have HLin := Lib.hid hlin
  have f1 : (0 : Int) ≤ (ps.length : Int) - 1 := by omega
  have f2 : (ps.length : Int) - 1 < (ps.length : Int) := by omega
  have f3 : ((ps.length : Int) - 1).toNat = ps.length - 1 := by omega
  have f4 : (ps.length : Int) - 1 ≤ (ps.length : Int) := by omega
  clear hx hx2 hlin hne
  by_cases h0 : x.size = 0
  case' pos =>
    have j1 : x.toList = [] := by
      have := len_data x
      rw [ByteArray.toList_eq]; exact List.eq_nil_of_length_eq_zero (by omega)
    have j2 : x.toList.isEmpty = true := by rw [j1]; rfl
    have HQ : Hid (∃ qs : List ByteArray, qs.length = ps.length - 1 ∧ qs.map (·.data.toList) = linesL t.data.toList ∧ ∀ k (hk : k < qs.length), (w.alloc (.cells (ps.map Value.string).toArray 9)).cell? ⟨w.heap.size, k, none⟩ = some (.string qs[k])) := by
      refine ⟨ps.dropLast, by simp, ?_, fun k hk => ?_⟩
      · rw [HLin.out, if_pos h0]
      · rw [HC0.out k (by simp at hk; omega), List.getElem_dropLast]
    clear h0 HC0 HLin
    go_enter Tryz.func5, Tryz.ntmps5
    obtain ⟨wa, hwa⟩ : ∃ wa, w.alloc (.cells (ps.map Value.string).toArray 9) = wa := ⟨_, rfl⟩
    rw [hwa] at HSp HQ hcl
    generalize hN : ps.length - 1 = N at HQ f3 hcl hxl
    go_wp2_with (go_at_call 9; refine Calls.mono HSp.out ?_; rintro e w1 ⟨rfl, hw1⟩; obtain rfl : wa = w1 := hw1.symm)
    clear j1 j2 hcl
  case' neg =>
    have j2 : x.toList.isEmpty = false := by
      have := len_data x
      rw [ByteArray.toList_eq]
      cases h : x.data.toList with
      | nil => rw [h] at this; simp at this; omega
      | cons _ _ => rfl
    have j1 : ¬ x.toList = [] := by intro h; rw [h] at j2; simp at j2
    have HQ : Hid (∃ qs : List ByteArray, qs.length = ps.length ∧ qs.map (·.data.toList) = linesL t.data.toList ∧ ∀ k (hk : k < qs.length), (w.alloc (.cells (ps.map Value.string).toArray 9)).cell? ⟨w.heap.size, k, none⟩ = some (.string qs[k])) := by
      refine ⟨ps, rfl, ?_, HC0.out⟩
      rw [HLin.out, if_neg h0]
    clear h0 HC0 HLin
    go_enter Tryz.func5, Tryz.ntmps5
    obtain ⟨wa, hwa⟩ : ∃ wa, w.alloc (.cells (ps.map Value.string).toArray 9) = wa := ⟨_, rfl⟩
    rw [hwa] at HSp HQ hcl
    go_wp2_with (go_at_call 9; refine Calls.mono HSp.out ?_; rintro e w1 ⟨rfl, hw1⟩; obtain rfl : wa = w1 := hw1.symm)
    clear j1 j2 hcl
    generalize hN : ps.length = N at HQ ⊢
  all_goals (
    obtain ⟨qs, hql, hqd, hqc⟩ := HQ.out
    subst hql
    have hqn : qs.length ≤ t.size + 1 := by omega
    have HB1 : Hid (Below w.heap.size w wa ∧ w.heap.size < wa.heap.size) := by
      show _ ∧ _
      subst hwa
      exact ⟨(Below.refl _ w).alloc (Nat.le_refl _) _, by simp⟩
    have hlen : (linesL t.data.toList).length = qs.length := by rw [← hqd, List.length_map]
    have HE : Hid (∀ k (hk : k < qs.length), ∃ hk2 : k < (linesL t.data.toList).length, (linesL t.data.toList)[k] = qs[k].data.toList) := by
      show ∀ _, _
      intro k hk
      refine ⟨by omega, ?_⟩
      simp only [← hqd, List.getElem_map]
    have HQC := Lib.hid hqc
    clear hwa f1 f2 f3 f4 HSp hps hqd hqc HQ hxl hpl hpos
    go_loopw [32] (fun i wr => wr = wa ∧ ∃ k : Nat, i = .int .i64 k ∧ k ≤ qs.length ∧ k ≤ 200 ∧ Hid (LongInv (linesL t.data.toList) k)) (fun i _ => qs.length - (intOf i).toNat)
    case atStart => exact ⟨rfl, 0, rfl, Nat.zero_le _, by omega, Lib.hid (long_start _)⟩
    case round =>
      obtain ⟨hwr, k, rfl, hk, hk2, hinv⟩ := hrel
      obtain rfl : wa = wr := hwr.symm
      by_cases hlt : k < qs.length
      · have c := HQC.out k hlt
        obtain ⟨hk3, hk4⟩ := HE.out k hlt
        have hk5 := len_data qs[k]
        by_cases h200 : k = 200
        · have HX := Lib.hid (parse_long (long_bad hinv.out hk3 (.inl (by omega))))
          subst h200
          clear hinv hk4 hk5
          go_wp2
          go_ret3
          exact ⟨_, 201, 2, [], rfl, ⟨HX.out, World.ownsRow_nil _ _ _ _, LinesAt.nil _ _, by simp⟩, HB1.out.1⟩
        · by_cases hbig : 200 < (qs[k].size : Int)
          · have HX := Lib.hid (parse_long (long_bad hinv.out hk3 (.inr (by rw [hk4]; omega))))
            have h201 : ((k : Int) == 200) = false := by rw [beq_eq_false_iff_ne]; omega
            have h202 : ¬ ((k : Int) = 200) := by omega
            clear hinv hk4 hk5
            go_wp2
            go_ret3
            exact ⟨_, k + 1, 2, [], rfl, ⟨HX.out, World.ownsRow_nil _ _ _ _, LinesAt.nil _ _, by simp⟩, HB1.out.1⟩
          · have HX := Lib.hid (long_step hinv.out hk3 (by omega) (by rw [hk4]; omega))
            have h201 : ((k : Int) == 200) = false := by rw [beq_eq_false_iff_ne]; omega
            have h202 : ¬ ((k : Int) = 200) := by omega
            clear hinv hk4 hk5
            go_wp2
            go_roundw
            case rel => exact ⟨trivial, k + 1, by go_num, by omega, by omega, HX⟩
            case measure => (simp [intOf]; omega)
      · obtain rfl : k = qs.length := by omega
        have HLN := Lib.hid (long_none hinv.out (by omega))
        clear hinv
        go_wp2
        go_loopw [5, 49] (fun out i wr => ∃ (k : Nat) (E : List LineE), i = .int .i64 k ∧ k ≤ qs.length ∧ wr.ownsRow wa.heap.size 32 2 out E.length (cellsE E) ∧ Below wa.heap.size wa wr ∧ LinesAt wr w.heap.size E ∧ E.length ≤ k ∧ Hid (TellInv (linesL t.data.toList) k (pl E))) (fun _ i _ => qs.length - (intOf i).toNat)
        case atStart => exact ⟨0, [], rfl, Nat.zero_le _, World.ownsRow_nil _ _ _ _, Below.refl _ _, LinesAt.nil _ _, by simp, Lib.hid (tell_start _)⟩
        case round =>
          obtain ⟨k, E, rfl, hk, hown, hb, hla, hE, hinv⟩ := hrel
          have HB := Lib.hid hb
          have HLA := Lib.hid hla
          have HLE := Lib.hid (long_each HLN.out)
          clear hb hla
          have hsz := HB.out.size
          by_cases hlt : k < qs.length
          · have c := keepC HB.out (HQC.out k hlt) (by have := HB1.out.2; simpa using this)
            obtain ⟨hk3, hk4⟩ := HE.out k hlt
            have hk5 := len_data qs[k]
            have hk6 : qs[k].size ≤ 200 := by rw [← hk5, ← hk4]; exact HLE.out.2 _ (List.getElem_mem _)
            generalize qs[k] = s at *
            cases hp : Lib.hasPrefix s.data.toList [35] with
            | true =>
              have HPf := Lib.hid (fun w => prefix_any s ⟨#[35]⟩ _ _ rfl rfl true hp w)
              have HI := Lib.hid (tell_skip hinv.out hk3 (by rw [hk4]; exact skip_yes hp))
              clear hinv hk4 hk5 hp
              go_wp2_with (go_at_call 10; refine Calls.mono (HPf.out _) ?_; rintro e w1 ⟨rfl, hw⟩; obtain rfl : wr = w1 := hw.symm)
              go_roundw
              case rel => exact ⟨k + 1, E, by go_num, by omega, hown, HB.out, HLA.out, by omega, HI.out⟩
              case measure => (simp [intOf]; omega)
            | false =>
              have HPf := Lib.hid (fun w => prefix_any s ⟨#[35]⟩ _ _ rfl rfl false hp w)
              have HW := Lib.hid (words_any s wr (by omega))
              have HSk := Lib.hid (skip_of hp)
              have HM1 : Hid (wr.cell? ⟨0, 0, none⟩ = some (.int .i64 m)) := keepC HB.out (keepC HB1.out.1 HM.out hw0) (by have := HB1.out.2; show 0 < _; omega)
              have hwr0 : 0 < wr.heap.size := by have := HB1.out.2; omega
              have HSN : Hid (∀ D', wordsL s.data.toList = D' → D' ≠ some [] → skipL s.data.toList = false) := fun D' h hne => HSk.out (by intro e; rw [e, words_nil] at h; exact hne h.symm)
              clear hp
              go_wp2_with (first
                | (go_at_call 10; refine Calls.mono (HPf.out _) ?_; rintro e w1 ⟨rfl, hw⟩; obtain rfl : wr = w1 := hw.symm)
                | (go_at_call 11
                   refine Calls.mono HW.out ?_
                   rintro e w1 ⟨v, ok, D, rfl, hyes, hno, hbw⟩
                   have HBW := Lib.hid hbw
                   clear hbw
                   cases ok
                   case' false =>
                     have HNo := Lib.hid (hno rfl)
                     clear hyes hno
                   case' true =>
                     obtain ⟨hwd, hrow, hDl⟩ := hyes rfl
                     have HWd := Lib.hid hwd
                     clear hyes hno hwd
                     by_cases hD0 : D = []
                     case' pos =>
                       subst hD0
                       obtain ⟨ao, vcap, rfl⟩ := row_empty hrow
                     case' neg =>
                       obtain ⟨g, cap, rfl, hcap, hcm, hbg, hg, hWA⟩ := row_words hrow hD0
                       have hDp := List.length_pos_iff.2 hD0
                       have HFt := Lib.hid (fits_any g cap D m w1 (keepC HBW.out HM1.out (by omega)) hWA hDp (by omega) hg)
                       have HWA := Lib.hid hWA
                       have hd0 : ((D.length : Int) == 0) = false := by rw [beq_eq_false_iff_ne]; omega
                       have hd1 : ¬ ((D.length : Int) = 0) := by omega
                       clear hWA)
                | (go_at_call 12
                   refine Calls.mono HFt.out ?_
                   rintro e w2 ⟨rfl, hb2⟩
                   have HB2 := Lib.hid hb2
                   clear hb2
                   cases hf : fitsL (wl D)))
              all_goals (first
                | (go_ret3; exact ⟨_, k + 1, 4, [], rfl, ⟨parse_bad HLN.out (tell_bad hinv.out hk3 (by rw [hk4]; exact HSN.out _ HNo.out (by simp)) (by rw [hk4]; exact HNo.out)), World.ownsRow_nil _ _ _ _, LinesAt.nil _ _, by simp⟩, HB1.out.1.trans ((HB.out.trans (HBW.out.mono hsz)).mono (by have := HB1.out.1.size; omega))⟩)
                | (go_ret3; exact ⟨_, k + 1, 4, [], rfl, ⟨parse_bad HLN.out (tell_unfit hinv.out hk3 (by rw [hk4]; exact HSN.out _ HWd.out (by simp only [ne_eq, Option.some.injEq]; exact wl_ne hD0)) (by rw [hk4]; exact HWd.out) (wl_ne hD0) hf), World.ownsRow_nil _ _ _ _, LinesAt.nil _ _, by simp⟩, HB1.out.1.trans ((HB.out.trans ((HBW.out.trans (HB2.out.mono HBW.out.size)).mono hsz)).mono (by have := HB1.out.1.size; omega))⟩)
                | exact ⟨⟨k + 1, E, by go_num, by omega, rowBelow hown HBW.out, HB.out.trans (HBW.out.mono hsz), HLA.out.below HBW.out, by omega, Lib.hid (tell_empty hinv.out hk3 (by rw [hk4]; exact HWd.out))⟩, by (simp [intOf]; omega)⟩
                | skip)
              obtain ⟨wx, hwx⟩ : ∃ wx, w2.alloc (Obj.cells #[Value.int IntKind.i64 ((k : Int) + 1), Value.slice none 0 0] 32) = wx := ⟨_, rfl⟩
              rw [hwx]
              have HPx : Hid (PairAt wx w2.heap.size 32 (.int .i64 ((k : Int) + 1)) (.slice none 0 0)) := by rw [← hwx]; exact PairAt.new _ _ _ _
              have HBx : Hid (Below w2.heap.size w2 wx) := by rw [← hwx]; exact (Below.refl _ w2).alloc (Nat.le_refl _) _
              have hg2 : g < w2.heap.size := by have := HB2.out.size; omega
              have HW2 := Lib.hid (HWA.out.below HB2.out hg)
              clear hwx hrow
              go_loopw [81] (fun i w3 => ∃ (j : Nat) (V : Value), i = .int .i64 j ∧ j ≤ D.length ∧ Below w2.heap.size w2 w3 ∧ PairAt w3 w2.heap.size 32 (.int .i64 ((k : Int) + 1)) V ∧ w3.ownsRow (w2.heap.size + 1) 9 1 V j ((D.take j).map (fun x => Value.string x.1))) (fun i _ => D.length - (intOf i).toNat)
              case atStart => exact ⟨0, _, rfl, Nat.zero_le _, HBx.out, HPx.out, World.ownsRow_nil _ _ _ _⟩
              case round =>
                obtain ⟨j, V, rfl, hj, hb3, hpr, hown3⟩ := hrel
                have HB3 := Lib.hid hb3
                have HPR := Lib.hid hpr
                clear hb3
                by_cases hjl : j < D.length
                · obtain ⟨c1, c2⟩ := HW2.out.below HB3.out hg2 j hjl
                  rw [Nat.mul_comm] at c1 c2
                  have c3 := hpr.c1
                  have f3 := hpr.fz (o := 1)
                  have hX := hpr.lt
                  clear hpr
                  have hDl2 : D.length ≤ 200 := by omega
                  have hB3s := HB3.out.size
                  go_wp2_with (at_builtin; refine wpList_append_own _ rfl _ _ 30 rfl (w2.heap.size + 1) 9 i9 (.string ByteArray.empty) 1 16 Tryz.underlying30 h9 h90 h91 h92 rfl (by decide) _ _ _ rfl ((hown3.alloc _).alloc _) ⟨wr.heap.size + 1, 0, none⟩ 1 1 [.string D[j].1] rfl rfl (c1_at _ _ _ _ (by simp)) (c2_str _) (by unfold maxLen; omega) (by omega) (by simp; omega) ?_; intro V' w4 hown4 hgrow4 _; obtain ⟨ao', cap', rfl⟩ := row_slice hown4; have hpr4 := ((HPR.out.alloc _).alloc _).grown hown3 (by omega) hgrow4; have c4 := hpr4.c1; have f4 := hpr4.fz (o := 1))
                  refine ⟨⟨j + 1, _, by go_num, by omega, ?_, hpr4.set _, ?_⟩, by (simp [intOf]; omega)⟩
                  · exact (Below.grown ((HB3.out.alloc (by omega) _).alloc (by simp; omega) _) hgrow4 (by simp; omega) (fun b hb => by have := (hown3.lt b hb).1; omega)).setCell (Nat.le_refl _) _
                  · rw [List.take_succ_eq_append_getElem hjl, List.map_append]
                    exact ownsRow_setCell_below hown4 (Nat.lt_succ_self _) _
                · obtain rfl : j = D.length := by omega
                  rw [List.take_length] at hown3
                  have hB3s := HB3.out.size
                  have hnow := rowBelow (rowBelow (rowBelow hown HBW.out) HB2.out) HB3.out
                  have HLnow := Lib.hid (((HLA.out.below HBW.out).below HB2.out).below HB3.out)
                  obtain ⟨vo, vc, rfl⟩ := row_slice hown3
                  have c3 := hpr.c0
                  have c4 := hpr.c1
                  have HT := Lib.hid (tell_line hinv.out hk3 (by rw [hk4]; exact HSN.out _ HWd.out (by simp only [ne_eq, Option.some.injEq]; exact wl_ne hD0)) (by rw [hk4]; exact HWd.out) (wl_ne hD0) hf)
                  have hws : w.heap.size ≤ w2.heap.size := by have := HB1.out.1.size; have := HBW.out.size; have := HB2.out.size; omega
                  have hEl : E.length ≤ 200 := by have := HLE.out.1; omega
                  clear hpr hown hf
                  go_wp2_with (at_builtin; refine wpList_append_own _ rfl _ _ 23 rfl wa.heap.size 32 i32 (.agg #[.int .i64 0, .slice none 0 0]) 2 32 Tryz.underlying23 h32 h320 h321 h322 rfl (by decide) _ _ _ rfl (hnow.alloc _) ⟨wr.heap.size, 0, none⟩ 1 1 [.int .i64 ((k : Int) + 1), .slice vo D.length vc] rfl rfl (c1_two _ _ _ _) (c2_line _ _ _ _) (by unfold maxLen; omega) (by omega) (by simp; omega) ?_; intro V' w4 hown4 hgrow4 _)
                  refine ⟨⟨k + 1, E ++ [(k + 1, .slice vo D.length vc, D.map (·.1))], by go_num, by omega, ?_, ?_, ?_, by simp; omega, ?_⟩, by (simp [intOf]; omega)⟩
                  · rw [cellsE_snoc, List.length_append]; exact hown4
                  · have hall := HB.out.trans (((HBW.out.trans (HB2.out.mono HBW.out.size)).trans (HB3.out.mono (by have := HBW.out.size; have := HB2.out.size; omega))).mono hsz)
                    exact Below.grown (hall.alloc hall.size _) hgrow4 (by have := hall.size; simp; omega) (fun b hb => (hnow.lt b hb).1)
                  · exact lines_snoc HLnow.out hD0 hown3 (by omega) hnow (by decide) _ hgrow4
                  · rw [pl_snoc]
                    have := HT.out
                    rw [wl_fst] at this
                    exact this
          · obtain rfl : k = qs.length := by omega
            have HX := Lib.hid (parse_ok HLN.out (tell_end hinv.out (by omega)))
            clear hinv
            go_wp2
            go_ret3
            exact ⟨_, 0, 0, E, rfl, ⟨HX.out, rowBase hown (by have := HB1.out.1.size; omega), HLA.out, by have := HLE.out.1; omega⟩, HB1.out.1.trans (HB.out.mono (by have := HB1.out.1.size; omega))⟩)
end Go.Proofs.Parse
end
