/- Part of the proof that card_holds ends in: what the script reader of the program and that of the reference return, line by line. -/
import Derived.Lib.SplitLaws
set_option linter.all false
section
namespace Go.Proofs.Parse
open Go Go.Lib
def splitL (c : UInt8) : List UInt8 → List (List UInt8)
  | [] => [[]]
  | x :: l => if x = c then [] :: splitL c l else match splitL c l with
    | [] => [[x]]
    | p :: r => (x :: p) :: r
theorem splitL_ne (c : UInt8) : ∀ l, splitL c l ≠ []
  | [] => by simp [splitL]
  | x :: l => by
    unfold splitL
    split
    · simp
    · split <;> simp
theorem splitL_none (c : UInt8) : ∀ {l : List UInt8}, (∀ x ∈ l, x ≠ c) → splitL c l = [l]
  | [], _ => rfl
  | x :: l, h => by
    unfold splitL
    rw [if_neg (h x (by simp)), splitL_none c (fun y hy => h y (List.mem_cons_of_mem _ hy))]
theorem splitL_app (c : UInt8) (r : List UInt8) : ∀ {a : List UInt8}, (∀ x ∈ a, x ≠ c) → splitL c (a ++ c :: r) = a :: splitL c r
  | [], _ => by simp [splitL]
  | x :: a, h => by
    have e : splitL c (x :: (a ++ c :: r)) = if x = c then [] :: splitL c (a ++ c :: r) else match splitL c (a ++ c :: r) with
      | [] => [[x]]
      | p :: r => (x :: p) :: r := rfl
    rw [List.cons_append, e, if_neg (h x (by simp)), splitL_app c r (fun y hy => h y (List.mem_cons_of_mem _ hy))]
theorem indexByte_spec (c : UInt8) (l : List UInt8) : (indexByte l c = -1 ∧ ∀ x ∈ l, x ≠ c) ∨ ∃ i : Nat, indexByte l c = i ∧ i < l.length ∧ (∀ x ∈ l.take i, x ≠ c) ∧ l = l.take i ++ c :: l.drop (i + 1) := by
  by_cases h : indexByte l c = -1
  · refine .inl ⟨h, fun x hx e => ?_⟩
    obtain ⟨k, hk⟩ := List.mem_iff_getElem?.1 hx
    exact indexByte_none h k (by rw [hk, e])
  · have hge := indexByte_ge l c
    obtain ⟨i, hi⟩ : ∃ i : Nat, indexByte l c = i := ⟨(indexByte l c).toNat, by omega⟩
    obtain ⟨h1, h2⟩ := indexByte_some hi
    have hlt : i < l.length := (List.getElem?_eq_some_iff.1 h1).1
    refine .inr ⟨i, hi, hlt, fun x hx e => ?_, ?_⟩
    · obtain ⟨k, hk⟩ := List.mem_iff_getElem?.1 hx
      rw [List.getElem?_take] at hk
      split at hk
      · rename_i hki; exact h2 k hki (by rw [hk, e])
      · cases hk
    · have : l.drop i = c :: l.drop (i + 1) := by
        rw [List.drop_eq_getElem_cons hlt]
        congr 1
        exact (List.getElem?_eq_some_iff.1 h1).2
      conv => lhs; rw [← List.take_append_drop i l, this]
theorem splitK_one (c : UInt8) : ∀ (n : Nat) (l : List UInt8), l.length ≤ n → splitK [c] 0 (count l [c]) l = splitL c l := by
  intro n
  induction n with
  | zero =>
    intro l hl
    have : l = [] := List.eq_nil_of_length_eq_zero (by omega)
    subst this
    rw [count_one]; rfl
  | succ n ih =>
    intro l hl
    rcases indexByte_spec c l with ⟨h1, h2⟩ | ⟨i, h1, h2, h3, h4⟩
    · rw [count_miss (by rw [index_one]; exact h1), splitL_none c h2]; rfl
    · rw [count_hit (i := i) (by simp) (by rw [index_one]; exact h1), Nat.add_comm 1]
      unfold splitK
      rw [index_one, h1, if_neg (by simp)]
      have e : ((i : Int)).toNat = i := by simp
      rw [e]
      simp only [Nat.add_zero, List.length_cons, List.length_nil, Nat.zero_add]
      conv => rhs; rw [h4]
      rw [splitL_app c _ h3, ih _ (by rw [List.length_drop]; omega)]
theorem splitB_one (c : UInt8) (s : ByteArray) : (splitB ⟨#[c]⟩ 0 (countB s ⟨#[c]⟩) s).map (·.data.toList) = splitL c s.data.toList := by
  rw [splitB_data]
  exact splitK_one c _ _ (Nat.le_refl _)
theorem splitL_length (c : UInt8) : ∀ l, (splitL c l).length = l.count c + 1
  | [] => rfl
  | x :: l => by
    unfold splitL
    by_cases h : x = c
    · rw [if_pos h, List.length_cons, splitL_length c l, h, List.count_cons_self]
    · rw [if_neg h]
      have := splitL_length c l
      split
      · rename_i h0; exact absurd h0 (splitL_ne c l)
      · rename_i p r hp
        rw [hp] at this
        simp only [List.length_cons] at this ⊢
        rw [List.count_cons_of_ne h]; omega
theorem countB_one (c : UInt8) (s : ByteArray) : countB s ⟨#[c]⟩ + 1 = (splitL c s.data.toList).length := by
  rw [splitL_length]; show count _ [c] + 1 = _; rw [count_one]
end Go.Proofs.Parse
end
section
namespace Go.Proofs.Parse
open Go Go.Lib
theorem splitL_mem_le (c : UInt8) : ∀ {l p : List UInt8}, p ∈ splitL c l → p.length ≤ l.length
  | [], p, h => by simp [splitL] at h; subst h; simp
  | x :: l, p, h => by
    unfold splitL at h
    split at h
    · rcases List.mem_cons.1 h with rfl | h
      · simp
      · have := splitL_mem_le c h; simp only [List.length_cons]; omega
    · split at h
      · simp at h; subst h; simp
      · rename_i q r hq
        rcases List.mem_cons.1 h with rfl | h
        · have := splitL_mem_le c (l := l) (p := q) (by rw [hq]; simp)
          simp only [List.length_cons]; omega
        · have := splitL_mem_le c (l := l) (p := p) (by rw [hq]; exact List.mem_cons_of_mem _ h)
          simp only [List.length_cons]; omega
def CutInv (c : UInt8) (l : List UInt8) (k F : Nat) (D : List (List UInt8)) : Prop :=
  D.length ≤ k ∧ F ≤ k ∧ ((k ≤ l.length ∧ splitL c l = D ++ splitL c (l.drop F) ∧ ∀ j, F ≤ j → j < k → l[j]? ≠ some c) ∨ (k = l.length + 1 ∧ D = splitL c l))
theorem cut_start (c : UInt8) (l : List UInt8) : CutInv c l 0 0 [] := ⟨Nat.le_refl _, Nat.le_refl _, .inl ⟨Nat.zero_le _, rfl, fun j _ h => absurd h (by omega)⟩⟩
theorem piece_of (c : UInt8) (l : List UInt8) (F k : Nat) (hF : F ≤ k) (hk : k ≤ l.length) (hn : ∀ j, F ≤ j → j < k → l[j]? ≠ some c) : (∀ x ∈ (l.take k).drop F, x ≠ c) ∧ l.drop F = (l.take k).drop F ++ l.drop k := by
  refine ⟨fun x hx e => ?_, ?_⟩
  · obtain ⟨j, hj⟩ := List.mem_iff_getElem?.1 hx
    rw [List.getElem?_drop, List.getElem?_take] at hj
    split at hj
    · exact hn (F + j) (by omega) (by omega) (by rw [hj, e])
    · cases hj
  · conv => lhs; rw [← List.take_append_drop k l]
    rw [List.drop_append_of_le_length (by rw [List.length_take]; omega)]
theorem cut_on {c : UInt8} {l : List UInt8} {k F : Nat} {D : List (List UInt8)} (h : CutInv c l k F D) (hk : k < l.length) (hc : l[k]? ≠ some c) : CutInv c l (k + 1) F D := by
  obtain ⟨h1, h2, h3⟩ := h
  refine ⟨by omega, by omega, .inl ?_⟩
  rcases h3 with ⟨a, b, d⟩ | ⟨a, _⟩
  · refine ⟨by omega, b, fun j hj1 hj2 => ?_⟩
    by_cases e : j = k
    · rw [e]; exact hc
    · exact d j hj1 (by omega)
  · omega
theorem cut_at {c : UInt8} {l : List UInt8} {k F : Nat} {D : List (List UInt8)} (h : CutInv c l k F D) (hk : k < l.length) (hc : l[k]? = some c) : CutInv c l (k + 1) (k + 1) (D ++ [(l.take k).drop F]) := by
  obtain ⟨h1, h2, h3⟩ := h
  refine ⟨by simp; omega, Nat.le_refl _, .inl ?_⟩
  rcases h3 with ⟨a, b, d⟩ | ⟨a, _⟩
  · obtain ⟨p1, p2⟩ := piece_of c l F k h2 a d
    refine ⟨by omega, ?_, fun j hj1 hj2 => by omega⟩
    have hd : l.drop k = c :: l.drop (k + 1) := by
      rw [List.drop_eq_getElem_cons hk]
      congr 1
      exact (List.getElem?_eq_some_iff.1 hc).2
    rw [b, p2, hd, splitL_app c _ p1, List.append_assoc]
    rfl
  · omega
theorem cut_end {c : UInt8} {l : List UInt8} {F : Nat} {D : List (List UInt8)} (h : CutInv c l l.length F D) : CutInv c l (l.length + 1) (l.length + 1) (D ++ [(l.take l.length).drop F]) := by
  obtain ⟨h1, h2, h3⟩ := h
  refine ⟨by simp; omega, Nat.le_refl _, .inr ⟨rfl, ?_⟩⟩
  rcases h3 with ⟨a, b, d⟩ | ⟨a, _⟩
  · obtain ⟨p1, p2⟩ := piece_of c l F l.length h2 a d
    rw [b, p2, List.drop_length, List.append_nil, splitL_none c p1]
  · omega
theorem cut_done {c : UInt8} {l : List UInt8} {k F : Nat} {D : List (List UInt8)} (h : CutInv c l k F D) (hk : ¬ k ≤ l.length) : D = splitL c l := by
  rcases h.2.2 with ⟨a, _⟩ | ⟨_, b⟩
  · omega
  · exact b
end Go.Proofs.Parse
end
section
namespace Go.Proofs.Parse
open Go Go.Lib
def headSp : List UInt8 → Bool
  | [] => true
  | x :: _ => x == 32
def wordsF : Nat → List UInt8 → Option (List (List UInt8 × Bool))
  | 0, _ => none
  | _ + 1, [] => some []
  | n + 1, c :: r =>
    if c = 32 then wordsF n r
    else if c = 34 then
      match r.drop (r.takeWhile (· != 34)).length with
      | [] => none
      | _ :: r2 => if headSp r2 then (wordsF n r2).map ((r.takeWhile (· != 34), true) :: ·) else none
    else (wordsF n (r.drop (r.takeWhile (· != 32)).length)).map ((c :: r.takeWhile (· != 32), false) :: ·)
theorem wordsF_fuel : ∀ n m s, s.length < n → s.length < m → wordsF n s = wordsF m s
  | 0, _, s, h, _ => absurd h (by omega)
  | n + 1, 0, s, _, h => absurd h (by omega)
  | n + 1, m + 1, [], _, _ => rfl
  | n + 1, m + 1, c :: r, h1, h2 => by
    simp only [List.length_cons] at h1 h2
    unfold wordsF
    have hd : ∀ k, (r.drop k).length ≤ r.length := fun k => by rw [List.length_drop]; omega
    split
    · exact wordsF_fuel n m r (by omega) (by omega)
    · split
      · split
        · rfl
        · rename_i r2 hr2
          have := hd (r.takeWhile (· != 34)).length
          rw [hr2, List.length_cons] at this
          rw [wordsF_fuel n m r2 (by omega) (by omega)]
      · have := hd (r.takeWhile (· != 32)).length
        rw [wordsF_fuel n m _ (by omega) (by omega)]
def wordsL (s : List UInt8) : Option (List (List UInt8 × Bool)) := wordsF (s.length + 1) s
theorem words_nil : wordsL [] = some [] := rfl
theorem words_space (r : List UInt8) : wordsL (32 :: r) = wordsL r := by
  unfold wordsL
  show wordsF (r.length + 1 + 1) (32 :: r) = _
  rw [wordsF, if_pos rfl]
theorem words_spaces : ∀ (s : List UInt8), wordsL (s.dropWhile (· == 32)) = wordsL s
  | [] => rfl
  | c :: r => by
    by_cases h : c = 32
    · subst h
      rw [List.dropWhile_cons_of_pos (by simp), words_spaces r, words_space]
    · rw [List.dropWhile_cons_of_neg (by simp [h])]
theorem words_plain {c : UInt8} {r : List UInt8} (h1 : c ≠ 32) (h2 : c ≠ 34) : wordsL (c :: r) = (wordsL (r.drop (r.takeWhile (· != 32)).length)).map ((c :: r.takeWhile (· != 32), false) :: ·) := by
  unfold wordsL
  show wordsF (r.length + 1 + 1) (c :: r) = _
  rw [wordsF, if_neg h1, if_neg h2]
  rw [wordsF_fuel (r.length + 1) ((r.drop (r.takeWhile (· != 32)).length).length + 1) _ (by rw [List.length_drop]; omega) (by omega)]
theorem words_quoted {r : List UInt8} : wordsL (34 :: r) = match r.drop (r.takeWhile (· != 34)).length with
      | [] => none
      | _ :: r2 => if headSp r2 then (wordsL r2).map ((r.takeWhile (· != 34), true) :: ·) else none := by
  unfold wordsL
  show wordsF (r.length + 1 + 1) (34 :: r) = _
  rw [wordsF, if_neg (by decide), if_pos rfl]
  split
  · rfl
  · rename_i r2 hr2
    have h1 : (r.drop (r.takeWhile (· != 34)).length).length ≤ r.length := by rw [List.length_drop]; omega
    rw [hr2, List.length_cons] at h1
    rw [wordsF_fuel (r.length + 1) (r2.length + 1) r2 (by omega) (by omega)]
theorem takeWhile_none {p : UInt8 → Bool} : ∀ {l : List UInt8}, (∀ x ∈ l, p x = true) → l.takeWhile p = l
  | [], _ => rfl
  | a :: l, h => by rw [List.takeWhile_cons_of_pos (h a (by simp)), takeWhile_none (fun x hx => h x (List.mem_cons_of_mem _ hx))]
theorem takeWhile_at {p : UInt8 → Bool} {c : UInt8} {r : List UInt8} (hc : p c = false) : ∀ {a : List UInt8}, (∀ x ∈ a, p x = true) → (a ++ c :: r).takeWhile p = a
  | [], _ => by rw [List.nil_append, List.takeWhile_cons_of_neg (by simp [hc])]
  | x :: a, h => by rw [List.cons_append, List.takeWhile_cons_of_pos (h x (by simp)), takeWhile_at hc (fun y hy => h y (List.mem_cons_of_mem _ hy))]
theorem blank_index (s : List UInt8) : ∃ k : Nat, indexByte (s ++ [32]) 32 = k ∧ k ≤ s.length ∧ s.takeWhile (· != 32) = s.take k := by
  rcases indexByte_spec 32 (s ++ [32]) with ⟨h1, h2⟩ | ⟨i, h1, h2, h3, h4⟩
  · exact absurd rfl (h2 32 (by simp))
  · have hi : i ≤ s.length := by simp at h2; omega
    refine ⟨i, h1, hi, ?_⟩
    rw [List.take_append_of_le_length hi] at h3
    by_cases e : i = s.length
    · subst e
      rw [List.take_length] at h3 ⊢
      exact takeWhile_none (fun x hx => by simpa using h3 x hx)
    · have hlt : i < s.length := by omega
      have h5 : (s ++ [32])[i]? = some 32 := by
        have := (indexByte_some (l := s ++ [32]) (c := 32) (o := i) h1).1; exact this
      rw [List.getElem?_append_left hlt] at h5
      have h6 : s = s.take i ++ 32 :: s.drop (i + 1) := by
        conv => lhs; rw [← List.take_append_drop i s]
        rw [List.drop_eq_getElem_cons hlt, (List.getElem?_eq_some_iff.1 h5).2]
      conv => lhs; rw [h6]
      exact takeWhile_at (by simp) (fun x hx => by simpa using h3 x hx)
theorem quote_index (s : List UInt8) : (indexByte s 34 = -1 ∧ s.drop (s.takeWhile (· != 34)).length = []) ∨ ∃ k : Nat, indexByte s 34 = k ∧ k < s.length ∧ s.takeWhile (· != 34) = s.take k ∧ s.drop (s.takeWhile (· != 34)).length = 34 :: s.drop (k + 1) := by
  rcases indexByte_spec 34 s with ⟨h1, h2⟩ | ⟨i, h1, h2, h3, h4⟩
  · refine .inl ⟨h1, ?_⟩
    rw [takeWhile_none (fun x hx => by simpa using h2 x hx), List.drop_length]
  · refine .inr ⟨i, h1, h2, ?_⟩
    have e : s.takeWhile (· != 34) = s.take i := by
      conv => lhs; rw [h4]
      exact takeWhile_at (by simp) (fun x hx => by simpa using h3 x hx)
    refine ⟨e, ?_⟩
    rw [e, List.length_take, Nat.min_eq_left (by omega), List.drop_eq_getElem_cons h2]
    congr 1
    exact (List.getElem?_eq_some_iff.1 (indexByte_some h1).1).2
theorem dropWhile_head {p : UInt8 → Bool} : ∀ {l : List UInt8} {c : UInt8} {r : List UInt8}, l.dropWhile p = c :: r → p c = false
  | [], c, r, h => by simp at h
  | a :: l, c, r, h => by
    by_cases ha : p a = true
    · rw [List.dropWhile_cons_of_pos ha] at h; exact dropWhile_head h
    · rw [List.dropWhile_cons_of_neg ha] at h
      simp only [List.cons.injEq] at h
      rw [← h.1]; simpa using ha
theorem word_step {l : List UInt8} {k : Nat} (h0 : ∃ c r, l = c :: r ∧ c ≠ 32 ∧ c ≠ 34) (hk : l.takeWhile (· != 32) = l.take k) (hkl : k ≤ l.length) : 1 ≤ k ∧ wordsL l = (wordsL (l.drop k)).map ((l.take k, false) :: ·) := by
  obtain ⟨c, r, rfl, h1, h2⟩ := h0
  rw [List.takeWhile_cons_of_pos (by simpa using h1)] at hk
  have hl := congrArg List.length hk
  rw [List.length_take, Nat.min_eq_left hkl, List.length_cons] at hl
  refine ⟨by omega, ?_⟩
  rw [words_plain h1 h2, ← hk]
  obtain ⟨j, rfl⟩ : ∃ j, k = j + 1 := ⟨k - 1, by omega⟩
  have : (r.takeWhile (· != 32)).length = j := by omega
  rw [this]; rfl
theorem quote_step {r : List UInt8} : (indexByte r 34 = -1 ∧ wordsL (34 :: r) = none) ∨ ∃ k : Nat, indexByte r 34 = k ∧ k < r.length ∧
    wordsL (34 :: r) = if headSp ((34 :: r).drop (k + 2)) then (wordsL ((34 :: r).drop (k + 2))).map ((((34 :: r).take (k + 1)).drop 1, true) :: ·) else none := by
  rcases quote_index r with ⟨h1, h2⟩ | ⟨k, h1, h2, h3, h4⟩
  · exact .inl ⟨h1, by rw [words_quoted, h2]⟩
  · refine .inr ⟨k, h1, h2, ?_⟩
    rw [words_quoted, h4]
    simp only [h3]
    rfl
theorem headSp_prefix (r : List UInt8) : hasPrefix (r ++ [32]) [32] = headSp r := by
  cases r with
  | nil => rfl
  | cons x r => simp [hasPrefix, headSp, List.isPrefixOf, Bool.beq_comm]
end Go.Proofs.Parse
end
section
namespace Go.Proofs.Parse
open Go Go.Lib
def linesL (l : List UInt8) : List (List UInt8) := if (splitL 10 l).getLast? = some [] then (splitL 10 l).dropLast else splitL 10 l
theorem lines_of_snoc {l : List UInt8} {D : List (List UInt8)} {x : List UInt8} (h : D ++ [x] = splitL 10 l) : linesL l = if x = [] then D else D ++ [x] := by
  unfold linesL
  rw [← h]
  simp
theorem lines_end {l : List UInt8} {F : Nat} {D : List (List UInt8)} (h : CutInv 10 l l.length F D) (hF : F ≤ l.length) : linesL l = if F < l.length then D ++ [l.drop F] else D := by
  have h1 := cut_done (cut_end h) (by omega)
  rw [List.take_length] at h1
  rw [lines_of_snoc h1]
  by_cases hlt : F < l.length
  · rw [if_pos hlt, if_neg]
    intro e
    have := congrArg List.length e
    simp at this; omega
  · rw [if_neg hlt, if_pos]
    exact List.drop_eq_nil_of_le (by omega)
theorem lines_mem_le {l p : List UInt8} (h : p ∈ linesL l) : p.length ≤ l.length := by
  unfold linesL at h
  split at h
  · exact splitL_mem_le 10 (List.dropLast_subset _ h)
  · exact splitL_mem_le 10 h
end Go.Proofs.Parse
end
section
namespace Go.Proofs.Parse
open Go Go.Lib
theorem drop_at {s : List UInt8} {i : Nat} {c : UInt8} (h : s[i]? = some c) : s.drop i = c :: s.drop (i + 1) := by
  obtain ⟨h1, h2⟩ := List.getElem?_eq_some_iff.1 h
  rw [List.drop_eq_getElem_cons h1, h2]
theorem take_at {s : List UInt8} {c : UInt8} {F j : Nat} (hF : F ≤ j) (hj : j ≤ s.length) (hn : ∀ m, F ≤ m → m < j → s[m]? ≠ some c) (he : j = s.length ∨ s[j]? = some c) :
    (s.drop F).takeWhile (· != c) = (s.take j).drop F ∧ (s.drop F).drop ((s.drop F).takeWhile (· != c)).length = s.drop j := by
  obtain ⟨p1, p2⟩ := piece_of c s F j hF hj hn
  have e : (s.drop F).takeWhile (· != c) = (s.take j).drop F := by
    rcases he with rfl | he
    · have : s.drop F = (s.take s.length).drop F := by rw [List.take_length]
      rw [← this] at p1 ⊢
      exact takeWhile_none (fun x hx => by simpa using p1 x hx)
    · conv => lhs; rw [p2, drop_at he]
      exact takeWhile_at (by simp) (fun x hx => by simpa using p1 x hx)
  refine ⟨e, ?_⟩
  rw [e, List.length_drop, List.length_take, Nat.min_eq_left hj, List.drop_drop]
  congr 1; omega
theorem p_good {s : List UInt8} {i j : Nat} {c : UInt8} (h : s[i]? = some c) (h1 : c ≠ 32) (h2 : c ≠ 34) (hF : i + 1 ≤ j) (hj : j ≤ s.length) (hn : ∀ m, i + 1 ≤ m → m < j → s[m]? ≠ some 32) (he : j = s.length ∨ s[j]? = some 32) :
    wordsL (s.drop i) = (wordsL (s.drop j)).map (((s.take j).drop i, false) :: ·) := by
  obtain ⟨e1, e2⟩ := take_at hF hj hn he
  rw [drop_at h, words_plain h1 h2, e2, e1]
  have : (s.take j).drop i = c :: (s.take j).drop (i + 1) := drop_at (by rw [List.getElem?_take, if_pos (by omega), h])
  rw [this]
theorem q_none {s : List UInt8} {i : Nat} (h : s[i]? = some 34) (hn : ∀ m, i + 1 ≤ m → m < s.length → s[m]? ≠ some 34) : wordsL (s.drop i) = none := by
  have hi := (List.getElem?_eq_some_iff.1 h).1
  obtain ⟨e1, e2⟩ := take_at (c := 34) (F := i + 1) (by omega) (Nat.le_refl _) hn (.inl rfl)
  rw [drop_at h, words_quoted, e2, List.drop_length]
theorem q_at {s : List UInt8} {i j : Nat} (h : s[i]? = some 34) (hF : i + 1 ≤ j) (hn : ∀ m, i + 1 ≤ m → m < j → s[m]? ≠ some 34) (he : s[j]? = some 34) :
    wordsL (s.drop i) = if headSp (s.drop (j + 1)) then (wordsL (s.drop (j + 1))).map (((s.take j).drop (i + 1), true) :: ·) else none := by
  have hj := (List.getElem?_eq_some_iff.1 he).1
  obtain ⟨e1, e2⟩ := take_at (c := 34) (F := i + 1) hF (by omega) hn (.inr he)
  rw [drop_at h, words_quoted, e2, e1, drop_at he]
theorem head_at {s : List UInt8} {j : Nat} {c : UInt8} (h : s[j]? = some c) : headSp (s.drop j) = (c == 32) := by rw [drop_at h]; rfl
theorem head_end {s : List UInt8} {j : Nat} (h : s.length ≤ j) : headSp (s.drop j) = true := by rw [List.drop_eq_nil_of_le h]; rfl
def WInv (s : List UInt8) (i : Nat) (D : List (List UInt8 × Bool)) : Prop := wordsL s = (wordsL (s.drop i)).map (D ++ ·)
theorem winv_start (s : List UInt8) : WInv s 0 [] := by unfold WInv; cases h : wordsL s <;> simp [h]
theorem winv_blank {s : List UInt8} {i : Nat} {D} (h : WInv s i D) (hc : s[i]? = some 32) : WInv s (i + 1) D := by
  unfold WInv at *; rw [h, drop_at hc, words_space]
theorem winv_end {s : List UInt8} {i : Nat} {D} (h : WInv s i D) (hi : s.length ≤ i) : wordsL s = some D := by
  rw [h, List.drop_eq_nil_of_le hi, words_nil]; simp
theorem winv_step {s : List UInt8} {i j : Nat} {D} {x : List UInt8 × Bool} (h : WInv s i D) (hs : wordsL (s.drop i) = (wordsL (s.drop j)).map (x :: ·)) : WInv s j (D ++ [x]) := by
  unfold WInv at *
  rw [h, hs, Option.map_map]
  congr 1
  funext y
  simp
theorem winv_none {s : List UInt8} {i : Nat} {D} (h : WInv s i D) (hs : wordsL (s.drop i) = none) : wordsL s = none := by rw [h, hs]; rfl
end Go.Proofs.Parse
end
