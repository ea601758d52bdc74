/- Part of the proof that card_holds ends in: an evaluator of closed runs over abstract memories, and that what it says holds of the model. -/
import Derived.Test.YtkobceanlhlmcaaGreatDoorA05
import Derived.ChangeKeysEq
import Derived.DeepKeys3
import Derived.Maps.RangeRun
set_option linter.all false
section
namespace Go.Ev
inductive FT where
  | int
  | str
  | bool
noncomputable def leafK (k : FT) (x y : V) (Kt Kf : Bool) : Bool := match k, x, y with
  | .int, .int k x, .int k' y => bif Nat.beq (kix k) (kix k') then Bool.rec (motive := fun _ => Bool) Kf Kt (iEq x y) else false
  | .str, .str n x, .str m y => Bool.rec (motive := fun _ => Bool) Kf Kt (Nat.beq n m && Nat.beq x y)
  | .bool, .bool a, .bool b => Bool.rec (motive := fun _ => Bool) (Bool.rec (motive := fun _ => Bool) Kt Kf b) (Bool.rec (motive := fun _ => Bool) Kf Kt b) a
  | _, _, _ => false
def FT.desc : FT → TypeDesc → Prop
  | .int, .int _ => True
  | .str, .string => True
  | .bool, .bool => True
  | _, _ => False
theorem FT.noAgg {k : FT} {d : TypeDesc} (h : k.desc d) : aggD d = false := by cases k <;> cases d <;> first | rfl | exact h.elim
theorem leafK_sound {P : Program} {φ : Phi} {w : World} {k : FT} {t : TypeId} {d : TypeDesc} {a b : V} {x y : Value} {Kt Kf : Bool} (hu : P.underlying t = some d) (hd : k.desc d) (ha : VR φ a x) (hb : VR φ b y) (h : leafK k a b Kt Kf = true) (n : Nat) :
    ((Op.equalIn (n + 1) t x y).run P w = .ok true w ∧ Instr.sameBits 10000 y x = true ∧ Kt = true) ∨ ((Op.equalIn (n + 1) t x y).run P w = .ok false w ∧ Kf = true) := by
  unfold leafK at h
  split at h
  · rename_i k p k' q
    obtain ⟨h1, h2⟩ := bif_true h
    have := kix_inj h1; subst this
    have := ha.int_inv; subst this
    have := hb.int_inv; subst this
    cases d <;> simp only [FT.desc] at hd
    rw [iEq_eq] at h2
    rw [run_equalIn_int w n t _ _ _ _ hu]
    cases hc : (p == q) with
    | true =>
      rw [hc] at h2
      have e : p = q := by simpa using hc
      refine .inl ⟨rfl, ?_, h2⟩
      subst e
      show (k == k && p == p) = true
      simp
    | false => rw [hc] at h2; exact .inr ⟨rfl, h2⟩
  · rename_i n' p m q
    obtain ⟨s, rfl, hs, hs'⟩ := ha.str_inv
    obtain ⟨u, rfl, hu', hu''⟩ := hb.str_inv
    cases d <;> simp only [FT.desc] at hd
    have e : (s.toList == u.toList) = (Nat.beq n' m && Nat.beq p q) := by
      rw [ByteArray.toList_eq, ByteArray.toList_eq, hs, hu', dec_eq _ _ _ _ hs' hu'']
    rw [run_equalIn_string w n t _ _ hu, e]
    cases hc : (Nat.beq n' m && Nat.beq p q) with
    | true =>
      rw [hc] at h; refine .inl ⟨rfl, ?_, h⟩
      show (u == s) = true
      rw [beq_toListBytes]
      rw [hc] at e
      have e' : s.toList = u.toList := by simpa using e
      simp [e']
    | false => rw [hc] at h; exact .inr ⟨rfl, h⟩
  · rename_i p q
    have := ha.bool_inv; subst this
    have := hb.bool_inv; subst this
    cases d <;> simp only [FT.desc] at hd
    rw [run_equalIn_bool w n t _ _ hu]
    cases p <;> cases q
    · exact .inl ⟨rfl, rfl, h⟩
    · exact .inr ⟨rfl, h⟩
    · exact .inr ⟨rfl, h⟩
    · exact .inl ⟨rfl, rfl, h⟩
  · exact absurd h (by simp)
noncomputable def eqLK (l : List (Nat × FT)) (a b : List V) (Kt Kf : Bool) : Bool :=
  List.rec (motive := fun _ => Bool) Kt (fun f _ ih => nthK a f.1 fun x => nthK b f.1 fun y => leafK f.2 x y ih Kf) l
theorem eqLK_append (a b : List V) (Kf : Bool) : ∀ (l m : List (Nat × FT)) (Kt : Bool), eqLK (l ++ m) a b Kt Kf = eqLK l a b (eqLK m a b Kt Kf) Kf
  | [], m, Kt => rfl
  | f :: l, m, Kt => by
    show (nthK a f.1 fun x => nthK b f.1 fun y => leafK f.2 x y (eqLK (l ++ m) a b Kt Kf) Kf) = _
    rw [eqLK_append a b Kf l m Kt]; rfl
theorem nthK_eq {α : Type} : ∀ (l : List α) (i : Nat) (K : α → Bool), nthK l i K = match l[i]? with | some a => K a | none => false
  | [], i, K => rfl
  | a :: l, 0, K => rfl
  | a :: l, i + 1, K => by
    show nthK l i K = _
    rw [nthK_eq l i K]; simp
def shiftL (off : Nat) (l : List (Nat × FT)) : List (Nat × FT) := l.map fun p => (off + p.1, p.2)
theorem eqLK_shift (a b : List V) (Kf : Bool) (off n : Nat) : ∀ (l : List (Nat × FT)) (Kt : Bool), (∀ p ∈ l, p.1 < n) → eqLK (shiftL off l) a b Kt Kf = eqLK l ((a.drop off).take n) ((b.drop off).take n) Kt Kf
  | [], Kt, h => rfl
  | f :: l, Kt, h => by
    show (nthK a (off + f.1) fun x => nthK b (off + f.1) fun y => leafK f.2 x y (eqLK (shiftL off l) a b Kt Kf) Kf) = (nthK ((a.drop off).take n) f.1 fun x => nthK ((b.drop off).take n) f.1 fun y => leafK f.2 x y (eqLK l _ _ Kt Kf) Kf)
    have hf : f.1 < n := h f (by simp)
    rw [eqLK_shift a b Kf off n l Kt fun p hp => h p (List.mem_cons_of_mem _ hp)]
    simp only [nthK_eq, List.getElem?_take, if_pos hf, List.getElem?_drop]
def flatFs (P : Program) (rec' : TypeId → Option (List (Nat × FT))) : List Field → Option (List (Nat × FT))
  | [] => some []
  | f :: fs => if f.name = "_" then none else match rec' f.type, flatFs P rec' fs with
    | some l, some r => if l.all (fun p => decide (p.1 < P.cellsOf f.type)) then some (shiftL f.offset l ++ r) else none
    | _, _ => none
def flatIs (l : List (Nat × FT)) (c : Nat) : List Nat → List (Nat × FT)
  | [] => []
  | i :: is => shiftL (i * c) l ++ flatIs l c is
def flatT (P : Program) : Nat → TypeId → Option (List (Nat × FT))
  | 0, _ => none
  | n + 1, t => match P.underlying t with
    | some (.int _) => some [(0, .int)]
    | some .string => some [(0, .str)]
    | some .bool => some [(0, .bool)]
    | some (.struct fs) => if P.stoodInHeld t then none else flatFs P (flatT P n) fs.toList
    | some (.array len el) => (match P.info? el, flatT P n el with
      | some _, some l => if l.all (fun p => decide (p.1 < P.cellsOf el)) then some (flatIs l (P.cellsOf el) (List.range len)) else none
      | _, _ => none)
    | _ => none
def RowV (P : Program) (t : TypeId) (X : Value) (xs : List Value) : Prop := ∃ d, P.underlying t = some d ∧ ((aggD d = true ∧ X = .agg xs.toArray) ∨ (aggD d = false ∧ xs[0]? = some X))
theorem VRs.part {φ : Phi} {a : List V} {xs : List Value} (h : VRs φ a xs) (off n : Nat) : VRs φ ((a.drop off).take n) ((xs.drop off).take n) := by
  have hd : ∀ (off : Nat) {a : List V} {xs : List Value}, VRs φ a xs → VRs φ (a.drop off) (xs.drop off) := by
    intro off
    induction off with
    | zero => intro a xs h; exact h
    | succ k ih => intro a xs h; cases h with
      | nil => exact .nil
      | cons h1 h2 => exact ih h2
  have ht : ∀ (n : Nat) {a : List V} {xs : List Value}, VRs φ a xs → VRs φ (a.take n) (xs.take n) := by
    intro n
    induction n with
    | zero => intro a xs h; exact .nil
    | succ k ih => intro a xs h; cases h with
      | nil => exact .nil
      | cons h1 h2 => exact .cons h1 (ih h2)
  exact ht n (hd off h)
theorem run_part_row {P : Program} {w : World} {t : TypeId} {d : TypeDesc} {xs : Array Value} {off : Nat} (hu : P.underlying t = some d) (h0 : aggD d = false → xs[off]? ≠ none) (hc : aggD d = false → P.cellsOf t = 1 ∨ 0 < P.cellsOf t) :
    ∃ X, (part t xs off).run P w = .ok X w ∧ RowV P t X ((xs.toList.drop off).take (P.cellsOf t)) := by
  obtain ⟨i, hi⟩ := info_of_underlying hu
  unfold part
  cases hg : aggD d with
  | true =>
    refine ⟨_, by simp only [Sem.run_bind, run_isAgg hu, Result.andThen_ok, hg, if_true, _root_.Go.run_sizeOf w hi, Sem.run_pure]; rfl, d, hu, .inl ⟨hg, ?_⟩⟩
    congr 1
    apply Array.ext'
    rw [Array.toList_extract]
    simp [List.extract]
  | false =>
    cases hx : xs[off]? with
    | none => exact absurd hx (h0 hg)
    | some X =>
      refine ⟨X, by simp only [Sem.run_bind, run_isAgg hu, Result.andThen_ok, hg, Bool.false_eq_true, if_false, hx, Sem.run_pure], d, hu, .inr ⟨hg, ?_⟩⟩
      have : 0 < P.cellsOf t := by rcases hc hg with h | h <;> omega
      rw [List.getElem?_take, if_pos this, List.getElem?_drop, Nat.add_zero, Array.getElem?_toList]; exact hx
theorem flat_one {P : Program} {n : Nat} {t : TypeId} {l : List (Nat × FT)} {d : TypeDesc} (h : flatT P n t = some l) (hu : P.underlying t = some d) (hd : aggD d = false) : ∃ k, l = [(0, k)] ∧ k.desc d := by
  cases n with
  | zero => simp [flatT] at h
  | succ n =>
    simp only [flatT, hu] at h
    split at h
    · rename_i e; simp only [Option.some.injEq] at e; subst e; simp at h; exact ⟨.int, h.symm, trivial⟩
    · rename_i e; simp only [Option.some.injEq] at e; subst e; simp at h; exact ⟨.str, h.symm, trivial⟩
    · rename_i e; simp only [Option.some.injEq] at e; subst e; simp at h; exact ⟨.bool, h.symm, trivial⟩
    · rename_i e; simp only [Option.some.injEq] at e; subst e; simp [aggD] at hd
    · rename_i e; simp only [Option.some.injEq] at e; subst e; simp [aggD] at hd
    · simp at h
section
variable {P : Program} {φ : Phi} {w : World}
def FlatOk (P : Program) (φ : Phi) (w : World) (m : Nat) (t : TypeId) (l : List (Nat × FT)) : Prop :=
  ∀ (X Y : Value) (xs ys : List Value) (a b : List V) (Kt Kf : Bool), RowV P t X xs → RowV P t Y ys → VRs φ a xs → VRs φ b ys → eqLK l a b Kt Kf = true →
    ((Op.equalIn m t X Y).run P w = .ok true w ∧ Kt = true) ∨ ((Op.equalIn m t X Y).run P w = .ok false w ∧ Kf = true)
theorem flat_part {m n : Nat} {t : TypeId} {l : List (Nat × FT)} (hl : flatT P n t = some l) (hall : l.all (fun p => decide (p.1 < P.cellsOf t)) = true) (hok : FlatOk P φ w m t l) {xs ys : Array Value} {a b : List V} {off : Nat} {Kt Kf : Bool}
    (ha : VRs φ a xs.toList) (hb : VRs φ b ys.toList) (hk : eqLK (shiftL off l) a b Kt Kf = true) :
    ∃ X Y r, (part t xs off).run P w = .ok X w ∧ (part t ys off).run P w = .ok Y w ∧ (Op.equalIn m t X Y).run P w = .ok r w ∧ ((r = true ∧ Kt = true) ∨ (r = false ∧ Kf = true)) := by
  have hlt : ∀ p ∈ l, p.1 < P.cellsOf t := by simpa using hall
  rw [eqLK_shift a b Kf off (P.cellsOf t) l Kt hlt] at hk
  obtain ⟨d, hu⟩ : ∃ d, P.underlying t = some d := by
    cases n with
    | zero => simp [flatT] at hl
    | succ n => cases hu : P.underlying t with
      | none => simp [flatT, hu] at hl
      | some d => exact ⟨d, rfl⟩
  have h0 : aggD d = false → 0 < P.cellsOf t ∧ xs[off]? ≠ none ∧ ys[off]? ≠ none := by
    intro hg
    obtain ⟨k, rfl, _⟩ := flat_one hl hu hg
    have h1 : 0 < P.cellsOf t := hlt (0, k) (by simp)
    have hk' : (nthK ((a.drop off).take (P.cellsOf t)) 0 fun x => nthK ((b.drop off).take (P.cellsOf t)) 0 fun y => leafK k x y Kt Kf) = true := hk
    obtain ⟨x, hx, h2⟩ := nthK_true hk'
    obtain ⟨y, hy, _⟩ := nthK_true h2
    obtain ⟨p, hp, _⟩ := (ha.part off (P.cellsOf t)).get hx
    obtain ⟨q, hq, _⟩ := (hb.part off (P.cellsOf t)).get hy
    rw [List.getElem?_take, if_pos h1, List.getElem?_drop, Nat.add_zero, Array.getElem?_toList] at hp hq
    exact ⟨h1, by rw [hp]; simp, by rw [hq]; simp⟩
  obtain ⟨X, hX, rX⟩ := run_part_row (P := P) (w := w) (xs := xs) (off := off) hu (fun hg => (h0 hg).2.1) (fun hg => .inr (h0 hg).1)
  obtain ⟨Y, hY, rY⟩ := run_part_row (P := P) (w := w) (xs := ys) (off := off) hu (fun hg => (h0 hg).2.2) (fun hg => .inr (h0 hg).1)
  rcases hok X Y _ _ _ _ Kt Kf rX rY (ha.part off _) (hb.part off _) hk with ⟨h1, h2⟩ | ⟨h1, h2⟩
  · exact ⟨X, Y, true, hX, hY, h1, .inl ⟨rfl, h2⟩⟩
  · exact ⟨X, Y, false, hX, hY, h1, .inr ⟨rfl, h2⟩⟩
theorem flat_fs {m n : Nat} (IH : ∀ t l, flatT P n t = some l → FlatOk P φ w m t l) {xs ys : Array Value} {a b : List V} (ha : VRs φ a xs.toList) (hb : VRs φ b ys.toList) : ∀ {fs : List Field} {l : List (Nat × FT)} {Kt Kf : Bool}, flatFs P (flatT P n) fs = some l → eqLK l a b Kt Kf = true →
    ((Op.eqFields m xs ys fs).run P w = .ok true w ∧ Kt = true) ∨ ((Op.eqFields m xs ys fs).run P w = .ok false w ∧ Kf = true)
  | [], l, Kt, Kf, hl, hk => by
    simp [flatFs] at hl; subst hl
    exact .inl ⟨rfl, hk⟩
  | f :: fs, l, Kt, Kf, hl, hk => by
    simp only [flatFs] at hl
    split at hl
    · simp at hl
    · rename_i hn
      split at hl
      · rename_i l1 r h1 h2
        split at hl
        · rename_i hall
          simp only [Option.some.injEq] at hl; subst hl
          rw [eqLK_append] at hk
          obtain ⟨X, Y, r', q1, q2, q3, q4⟩ := flat_part h1 hall (IH _ _ h1) ha hb hk
          simp only [Op.eqFields, hn, ne_eq, not_false_eq_true, if_true, Sem.run_bind, q1, q2, q3, Result.andThen_ok]
          rcases q4 with ⟨rfl, hk2⟩ | ⟨rfl, hk2⟩
          · simp only [Bool.not_true, Bool.false_eq_true, if_false]
            exact flat_fs IH ha hb h2 hk2
          · exact .inr ⟨by simp, hk2⟩
        · simp at hl
      · simp at hl
theorem flat_is {m n : Nat} {e : TypeId} {l : List (Nat × FT)} (hl : flatT P n e = some l) (hall : l.all (fun p => decide (p.1 < P.cellsOf e)) = true) (hok : FlatOk P φ w m e l) {xs ys : Array Value} {a b : List V} (ha : VRs φ a xs.toList) (hb : VRs φ b ys.toList) : ∀ {is : List Nat} {Kt Kf : Bool}, eqLK (flatIs l (P.cellsOf e) is) a b Kt Kf = true →
    ((Op.eqItems m e (P.cellsOf e) xs ys is).run P w = .ok true w ∧ Kt = true) ∨ ((Op.eqItems m e (P.cellsOf e) xs ys is).run P w = .ok false w ∧ Kf = true)
  | [], Kt, Kf, hk => .inl ⟨rfl, hk⟩
  | i :: is, Kt, Kf, hk => by
    have hk : eqLK (shiftL (i * P.cellsOf e) l ++ flatIs l (P.cellsOf e) is) a b Kt Kf = true := hk
    rw [eqLK_append] at hk
    obtain ⟨X, Y, r', q1, q2, q3, q4⟩ := flat_part hl hall hok ha hb hk
    simp only [Op.eqItems, Sem.run_bind, q1, q2, q3, Result.andThen_ok]
    rcases q4 with ⟨rfl, hk2⟩ | ⟨rfl, hk2⟩
    · simp only [Bool.not_true, Bool.false_eq_true, if_false]
      exact flat_is hl hall hok ha hb hk2
    · exact .inr ⟨by simp, hk2⟩
theorem flat_ok (dd : Nat) : ∀ (n : Nat) (t : TypeId) (l : List (Nat × FT)), flatT P n t = some l → FlatOk P φ w (n + dd) t l
  | 0, t, l, h => by simp [flatT] at h
  | n + 1, t, l, h => by
    intro X Y xs ys a b Kt Kf hX hY ha hb hk
    rw [show n + 1 + dd = (n + dd) + 1 by omega]
    obtain ⟨d, hu, hX⟩ := hX
    obtain ⟨d', hu', hY⟩ := hY
    rw [hu] at hu'; simp only [Option.some.injEq] at hu'; subst hu'
    have one : aggD d = false → (((Op.equalIn (n + dd + 1) t X Y).run P w = .ok true w ∧ Kt = true) ∨ ((Op.equalIn (n + dd + 1) t X Y).run P w = .ok false w ∧ Kf = true)) := fun hg => by
      obtain ⟨k, rfl, hkd⟩ := flat_one h hu hg
      rcases hX with ⟨hg', _⟩ | ⟨_, hX⟩
      · rw [hg] at hg'; exact absurd hg' (by simp)
      rcases hY with ⟨hg', _⟩ | ⟨_, hY⟩
      · rw [hg] at hg'; exact absurd hg' (by simp)
      obtain ⟨x, hx, h2⟩ := nthK_true (show (nthK a 0 fun x => nthK b 0 fun y => leafK k x y Kt Kf) = true from hk)
      obtain ⟨y, hy, h3⟩ := nthK_true h2
      obtain ⟨p, hp, hpr⟩ := ha.get hx
      obtain ⟨q, hq, hqr⟩ := hb.get hy
      rw [hX] at hp; simp only [Option.some.injEq] at hp; subst hp
      rw [hY] at hq; simp only [Option.some.injEq] at hq; subst hq
      show ((Op.equalIn (n + dd + 1) t X Y).run P w = .ok true w ∧ Kt = true) ∨ ((Op.equalIn (n + dd + 1) t X Y).run P w = .ok false w ∧ Kf = true)
      rcases leafK_sound (P := P) (w := w) hu hkd hpr hqr h3 (n + dd) with ⟨g1, _, g2⟩ | ⟨g1, g2⟩
      · exact .inl ⟨g1, g2⟩
      · exact .inr ⟨g1, g2⟩
    cases hg : aggD d with
    | false => exact one hg
    | true =>
      rcases hX with ⟨_, rfl⟩ | ⟨hg', _⟩
      rotate_left
      · rw [hg] at hg'; exact absurd hg' (by simp)
      rcases hY with ⟨_, rfl⟩ | ⟨hg', _⟩
      rotate_left
      · rw [hg] at hg'; exact absurd hg' (by simp)
      simp only [flatT, hu] at h
      split at h
      · rename_i e; simp only [Option.some.injEq] at e; subst e; simp [aggD] at hg
      · rename_i e; simp only [Option.some.injEq] at e; subst e; simp [aggD] at hg
      · rename_i e; simp only [Option.some.injEq] at e; subst e; simp [aggD] at hg
      · rename_i fs e
        simp only [Option.some.injEq] at e; subst e
        split at h
        · simp at h
        · rename_i hp
          have hfo : P.fieldsOf t = fs := by unfold Program.fieldsOf; rw [hu]
          have ht : P.underlying t = some (.struct (P.fieldsOf t)) := by rw [hfo]; exact hu
          have hrun := run_equalIn_agg w (n + dd) t xs.toArray ys.toArray ht (by simpa using hp)
          rw [hfo] at hrun
          rw [hrun]
          exact flat_fs (fun t l h => flat_ok dd n t l h) (by simpa using ha) (by simpa using hb) h hk
      · rename_i len el e
        simp only [Option.some.injEq] at e; subst e
        split at h
        · rename_i i l1 hi h1
          split at h
          · rename_i hall
            simp only [Option.some.injEq] at h; subst h
            rw [run_equalIn_array w (n + dd) xs.toArray ys.toArray hu hi]
            exact flat_is h1 hall (flat_ok dd n el l1 h1) (by simpa using ha) (by simpa using hb) hk
          · simp at h
        · simp at h
      · simp at h
end
noncomputable def fEqL (neg : Bool) (l : List (Nat × FT)) : Rd := fun vs _ K => match vs with
  | [.agg a, .agg b] => eqLK l a b (Bool.rec (motive := fun _ => Bool) (K (.bool true)) (K (.bool false)) neg) (Bool.rec (motive := fun _ => Bool) (K (.bool false)) (K (.bool true)) neg)
  | _ => false
theorem fEqL_sound {P : Program} {t yt : TypeId} {x y : Operand} {d : TypeDesc} {l : List (Nat × FT)} (neg : Bool) (hu : P.underlying t = some d) (hd : aggD d = true) (hl : flatT P 20 t = some l)
    (hg : P.eqGuardType P.depth t = false) : RdSound P (.binOp (if neg then .neq else .eql) t x y yt) (fEqL neg l) := by
  intro o ho B φ h w ρ vs K hr hv hk
  simp only [Op.operands] at hv
  unfold fEqL at hk
  split at hk
  · rename_i a b
    obtain ⟨p, q, e, hp', hq'⟩ := hv.two
    simp only [List.map_cons, List.map_nil, List.cons.injEq, and_true] at e
    obtain ⟨xs, rfl, hxs⟩ := hp'.agg_inv
    obtain ⟨ys, rfl, hys⟩ := hq'.agg_inv
    have fin : ∀ r, (Op.equalIn 10000 t (.agg xs) (.agg ys)).run P w = .ok r w → K (.bool (bne neg r)) = true → ∃ v x, (execOp ρ o).run P w = .ok (.value x) w ∧ VR φ v x ∧ K v = true := by
      intro r h1 h2
      refine ⟨_, .bool (bne neg r), ?_, .bool _, h2⟩
      simp only [execOp, ho, e.1, e.2]
      cases neg with
      | true =>
        simp only [if_true, Sem.run_bind, run_eqGuard_agg w .neq t x y xs ys hg, Result.andThen_ok, run_neq_struct]
        rw [h1]
        simp [Sem.run_pure]
      | false =>
        simp only [Bool.false_eq_true, if_false, Sem.run_bind, run_eqGuard_agg w .eql t x y xs ys hg, Result.andThen_ok, run_eql_struct]
        rw [h1]
        simp [Sem.run_pure]
    rcases flat_ok (P := P) (φ := φ) (w := w) 9980 20 t l hl (.agg xs) (.agg ys) xs.toList ys.toList a b _ _ ⟨d, hu, .inl ⟨hd, by simp⟩⟩ ⟨d, hu, .inl ⟨hd, by simp⟩⟩ hxs hys hk with ⟨h1, h2⟩ | ⟨h1, h2⟩
    · exact fin true h1 (by cases neg <;> exact h2)
    · exact fin false h1 (by cases neg <;> exact h2)
  · exact absurd hk (by simp)
end Go.Ev
end
section
namespace Go.Ev
structure PairKey (P : Program) (k : TypeId) : Prop where
  law : WideMaps.KeyLaw P k
  ex : ∀ (s : ByteArray) (z : Int), s.size ≤ maxLen → (Lit.int .i64 z).wf = true → ∃ l, keyOf P k (.agg #[.string s, .int .i64 z]) = some l
def pairT (P : Program) (k : TypeId) : Bool := match P.underlying k with
  | some (.struct fs) => (match fs.toList with
    | [f0, f1] => (match P.underlying f0.type, P.underlying f1.type with
      | some .string, some (.int .i64) => f0.name != "_" && f1.name != "_" && f0.offset == 0 && f1.offset == 1 && P.cellsOf k == 2 && P.cellsOf f0.type == 1 && P.cellsOf f1.type == 1 && P.keyTypeAt 5 k && P.keyType k && P.tiled 5 k && Nat.ble 1 P.types.size
      | _, _ => false)
    | _ => false)
  | _ => false
theorem pairT_ok {P : Program} {k : TypeId} (h : pairT P k = true) : PairKey P k := by
  unfold pairT at h
  split at h
  · rename_i fs hu
    split at h
    · rename_i f0 f1 hfs
      split at h
      · rename_i h0 h1
        simp only [Bool.and_eq_true, beq_iff_eq, bne_iff_ne, ne_eq] at h
        obtain ⟨⟨⟨⟨⟨⟨⟨⟨⟨⟨n0, n1⟩, o0⟩, o1⟩, ck⟩, c0⟩, c1⟩, kt⟩, kk⟩, ti⟩, ts⟩ := h
        have hwide : (match P.underlying k with | some (.array _ _) | some (.struct _) => true | _ => false) = true := by rw [hu]
        refine ⟨deep_law (m := 5) (by decide) kt ti hwide, fun s z hs hz => ?_⟩
        obtain ⟨d, hd⟩ : ∃ d, P.types.size = d + 1 := ⟨P.types.size - 1, by have := ble_of ts; omega⟩
        have hform : (Value.agg #[.string s, .int .i64 z]).formed P k = true := by simp [Value.formed, hu, ck]
        have hall : (fs.all fun x => x.name != "_") = true := by
          rw [← Array.all_toList, hfs]; simp [n0, n1]
        have e0 : P.keyLits (d + 1) f0.type [.string s] = some [.string s.data.toList] := by simp [Program.keyLits, h0, hs]
        have e1 : P.keyLits (d + 1) f1.type [.int .i64 z] = some [.int .i64 z] := by simp [Program.keyLits, h1, hz]
        have hl : P.keyLits (P.types.size + 1) k [.string s, .int .i64 z] = some [.string s.data.toList, .int .i64 z] := by
          rw [hd]
          unfold Program.keyLits
          simp only [hu, List.length_cons, List.length_nil, ck, hall, and_self, if_true, hfs, List.mapM_cons, List.mapM_nil, o0, o1, c0, c1, List.drop_zero, List.drop_succ_cons, List.take_succ_cons, List.take_zero, e0, e1]
          rfl
        refine ⟨.string (keyBytes [.string s.data.toList, .int .i64 z]), ?_⟩
        unfold keyOf
        simp only [hu, kk, hform, Bool.and_self, if_true]
        rw [show (Value.agg #[.string s, .int .i64 z]).cells.toList = [.string s, .int .i64 z] from rfl, hl]
        rfl
      · exact absurd h (by simp)
    · exact absurd h (by simp)
  · exact absurd h (by simp)
noncomputable def inR (z : Int) : Bool := Int.rec (motive := fun _ => Bool) (fun m => Nat.ble m 9223372036854775807) (fun m => Nat.ble m 9223372036854775807) z
theorem inR_wf {z : Int} (h : inR z = true) : (Lit.int .i64 z).wf = true := by
  have h1 : IntKind.i64.min = -9223372036854775808 := rfl
  have h2 : IntKind.i64.max = 9223372036854775807 := rfl
  cases z with
  | ofNat m => have := ble_of (show Nat.ble m 9223372036854775807 = true from h); simp [Lit.wf, h1, h2]; omega
  | negSucc m => have := ble_of (show Nat.ble m 9223372036854775807 = true from h); simp [Lit.wf, h1, h2]; omega
noncomputable def pkK (v : V) (K : Nat → Nat → Int → Bool) : Bool := match v with
  | .agg [.str n c, .int .i64 z] => bif Nat.ble n 1000000 && inR z then K n c z else false
  | _ => false
theorem pkK_true {v : V} {K : Nat → Nat → Int → Bool} (h : pkK v K = true) : ∃ n c z, v = .agg [.str n c, .int .i64 z] ∧ n ≤ 1000000 ∧ (Lit.int .i64 z).wf = true ∧ K n c z = true := by
  unfold pkK at h
  split at h
  · obtain ⟨h1, h2⟩ := bif_true h
    obtain ⟨h1, h3⟩ := Bool.and_eq_true_iff.1 h1
    exact ⟨_, _, _, rfl, ble_of h1, inR_wf h3, h2⟩
  · exact absurd h (by simp)
theorem pk_value {φ : Phi} {n c : Nat} {z : Int} {x : Value} (h : VR φ (.agg [.str n c, .int .i64 z]) x) : ∃ s : ByteArray, x = .agg #[.string s, .int .i64 z] ∧ s.data.toList = dec n c ∧ c < 256 ^ n := by
  obtain ⟨xs, rfl, hxs⟩ := h.agg_inv
  obtain ⟨l, e⟩ : ∃ l, xs.toList = l := ⟨_, rfl⟩
  rw [e] at hxs
  cases hxs with | cons h1 h2 =>
  cases h2 with | cons h3 h4 =>
  cases h4
  obtain ⟨s, rfl, hs, hs'⟩ := h1.str_inv
  have := h3.int_inv; subst this
  refine ⟨s, ?_, hs, hs'⟩
  congr 1
  exact Array.ext' e
theorem pk_eq {φ : Phi} {n c n' c' : Nat} {z z' : Int} {x y : Value} (hx : VR φ (.agg [.str n c, .int .i64 z]) x) (hy : VR φ (.agg [.str n' c', .int .i64 z']) y) :
    (x = y ↔ (n = n' ∧ c = c' ∧ z = z')) := by
  obtain ⟨s, rfl, hs, hs'⟩ := pk_value hx
  obtain ⟨u, rfl, hu, hu'⟩ := pk_value hy
  constructor
  · intro e
    simp only [Value.agg.injEq, Array.mk.injEq, List.cons.injEq, Value.string.injEq, Value.int.injEq, and_true, true_and] at e
    obtain ⟨rfl, rfl⟩ := e
    have hd : (dec n c == dec n' c') = true := by rw [← hs, ← hu]; simp
    rw [dec_eq _ _ _ _ hs' hu', Bool.and_eq_true] at hd
    exact ⟨Nat.eq_of_beq_eq_true hd.1, Nat.eq_of_beq_eq_true hd.2, rfl⟩
  · rintro ⟨rfl, rfl, rfl⟩
    have : s = u := by
      have e : s.data = u.data := Array.ext' (hs.trans hu.symm)
      cases s; cases u; cases e; rfl
    rw [this]
noncomputable def noneK (n c : Nat) (z : Int) (es : List Ent) (Kn : Bool) : Bool :=
  List.rec (motive := fun _ => Bool) Kn (fun e _ ih => pkK e.key fun n' c' z' => Bool.rec (motive := fun _ => Bool) ih false (Nat.beq n n' && Nat.beq c c' && iEq z z')) es
noncomputable def findPK (n c : Nat) (z : Int) (es : List Ent) : Nat → Bool → (Nat → Ent → Bool) → Bool :=
  List.rec (motive := fun _ => Nat → Bool → (Nat → Ent → Bool) → Bool) (fun _ Kn _ => Kn)
    (fun e r ih i Kn Ks => pkK e.key fun n' c' z' => Bool.rec (motive := fun _ => Bool) (ih (Nat.succ i) Kn Ks) (noneK n c z r (natK i fun i => Ks i e)) (Nat.beq n n' && Nat.beq c c' && iEq z z')) es
theorem pk_beq {n n' c c' : Nat} {z z' : Int} : (Nat.beq n n' && Nat.beq c c' && iEq z z') = true ↔ (n = n' ∧ c = c' ∧ z = z') := by
  rw [iEq_eq]; simp [Bool.and_eq_true, and_assoc]
theorem noneK_sound {φ : Phi} {n c : Nat} {z : Int} {x : Value} (hx : VR φ (.agg [.str n c, .int .i64 z]) x) : ∀ {es : List Ent} {xs : List MapEntry} {Kn : Bool}, Ents φ es xs → noneK n c z es Kn = true → Kn = true ∧ ∀ e ∈ xs, e.key ≠ x ∧ ∃ n' c' z', VR φ (.agg [.str n' c', .int .i64 z']) e.key ∧ n' ≤ 1000000 ∧ (Lit.int .i64 z').wf = true
  | [], xs, Kn, he, h => by cases he; exact ⟨h, by simp⟩
  | e :: es, xs, Kn, he, h => by
    cases he with | @cons _ y _ ys h1 h2 h3 h4 =>
    have h' : (pkK e.key fun n' c' z' => Bool.rec (motive := fun _ => Bool) (noneK n c z es Kn) false (Nat.beq n n' && Nat.beq c c' && iEq z z')) = true := h
    obtain ⟨n', c', z', hk, hn, hz, h5⟩ := pkK_true h'
    cases hb : (Nat.beq n n' && Nat.beq c c' && iEq z z') with
    | true => rw [hb] at h5; exact absurd h5 (by simp)
    | false =>
      rw [hb] at h5
      obtain ⟨g1, g2⟩ := noneK_sound hx h4 h5
      rw [hk] at h1
      refine ⟨g1, fun e' he' => ?_⟩
      rcases List.mem_cons.1 he' with rfl | he'
      · refine ⟨fun e => ?_, n', c', z', h1, hn, hz⟩
        have := pk_beq.2 ((pk_eq hx h1).1 e.symm)
        rw [hb] at this; exact absurd this (by simp)
      · exact g2 e' he'
theorem findPK_sound {φ : Phi} {n c : Nat} {z : Int} {x : Value} (hx : VR φ (.agg [.str n c, .int .i64 z]) x) : ∀ {es : List Ent} {xs : List MapEntry} {i : Nat} {Kn : Bool} {Ks : Nat → Ent → Bool}, Ents φ es xs → findPK n c z es i Kn Ks = true →
    (∀ e ∈ xs, ∃ n' c' z', VR φ (.agg [.str n' c', .int .i64 z']) e.key ∧ n' ≤ 1000000 ∧ (Lit.int .i64 z').wf = true) ∧
    (((∀ e ∈ xs, e.key ≠ x) ∧ Kn = true) ∨ ∃ j e y, xs[j]? = some y ∧ y.key = x ∧ (∀ j' y', xs[j']? = some y' → y'.key = x → j' = j) ∧ VR φ e.key y.key ∧ VR φ e.val y.val ∧ e.born = y.born ∧ Ks (i + j) e = true)
  | [], xs, i, Kn, Ks, he, h => by cases he; exact ⟨by simp, .inl ⟨by simp, h⟩⟩
  | e :: es, xs, i, Kn, Ks, he, h => by
    cases he with | @cons _ y _ ys h1 h2 h3 h4 =>
    have h' : (pkK e.key fun n' c' z' => Bool.rec (motive := fun _ => Bool) (findPK n c z es (i + 1) Kn Ks) (noneK n c z es (natK i fun i => Ks i e)) (Nat.beq n n' && Nat.beq c c' && iEq z z')) = true := h
    obtain ⟨n', c', z', hk, hn, hz, h5⟩ := pkK_true h'
    have h1' := h1
    rw [hk] at h1'
    cases hb : (Nat.beq n n' && Nat.beq c c' && iEq z z') with
    | true =>
      rw [hb] at h5
      obtain ⟨g1, g2⟩ := noneK_sound hx h4 h5
      rw [natK_eq] at g1
      have hxy : y.key = x := ((pk_eq hx h1').2 (pk_beq.1 hb)).symm
      refine ⟨fun e' he' => ?_, .inr ⟨0, e, y, rfl, hxy, fun j' y' hj hy' => ?_, h1, h2, h3, g1⟩⟩
      · rcases List.mem_cons.1 he' with rfl | he'
        · exact ⟨n', c', z', h1', hn, hz⟩
        · exact (g2 e' he').2
      · cases j' with
        | zero => rfl
        | succ j' =>
          rw [List.getElem?_cons_succ] at hj
          exact absurd hy' (g2 y' (List.mem_of_getElem? hj)).1
    | false =>
      rw [hb] at h5
      have hne : y.key ≠ x := fun e => by
        have := pk_beq.2 ((pk_eq hx h1').1 e.symm)
        rw [hb] at this; exact absurd this (by simp)
      obtain ⟨g1, g2⟩ := findPK_sound hx h4 h5
      refine ⟨fun e' he' => ?_, ?_⟩
      · rcases List.mem_cons.1 he' with rfl | he'
        · exact ⟨n', c', z', h1', hn, hz⟩
        · exact g1 e' he'
      · rcases g2 with ⟨g2, g3⟩ | ⟨j, e', y', k1, k2, k3, k4, k5, k6, k7⟩
        · refine .inl ⟨fun e' he' => ?_, g3⟩
          rcases List.mem_cons.1 he' with rfl | he'
          · exact hne
          · exact g2 e' he'
        · refine .inr ⟨j + 1, e', y', by rw [List.getElem?_cons_succ]; exact k1, k2, fun j' y2 hj hy' => ?_, k4, k5, k6, by rw [show i + (j + 1) = i + 1 + j by omega]; exact k7⟩
          cases j' with
          | zero => simp at hj; subst hj; exact absurd hy' hne
          | succ j' => rw [List.getElem?_cons_succ] at hj; rw [k3 j' y2 hj hy']
theorem pk_key {P : Program} {k : TypeId} (hp : PairKey P k) {φ : Phi} {n c : Nat} {z : Int} {x : Value} (hx : VR φ (.agg [.str n c, .int .i64 z]) x) (hn : n ≤ 1000000) (hz : (Lit.int .i64 z).wf = true) : ∃ l, keyOf P k x = some l := by
  obtain ⟨s, rfl, hs, _⟩ := pk_value hx
  exact hp.ex s z (by rw [size_of_dec hs]; exact Nat.le_trans hn (by decide)) hz
theorem run_findPK {P : Program} {k : TypeId} (hp : PairKey P k) {φ : Phi} {w : World} {n c : Nat} {z : Int} {x : Value} (hx : VR φ (.agg [.str n c, .int .i64 z]) x) (hn : n ≤ 1000000) (hz : (Lit.int .i64 z).wf = true) {es : List Ent} {xs : Array MapEntry} {Kn : Bool} {Ks : Nat → Ent → Bool}
    (he : Ents φ es xs.toList) (h : findPK n c z es 0 Kn Ks = true) :
    (∀ em, (Instr.checkKey em 10000 k x).run P w = .ok () w) ∧ (Instr.keyThatStays x x).run P w = .ok x w ∧
    (((Instr.findKey k x xs.toList).run P w = .ok none w ∧ Kn = true) ∨ ∃ j e y, (Instr.findKey k x xs.toList).run P w = .ok (some (j, y.val)) w ∧ xs[j]? = some y ∧ y.key = x ∧ VR φ e.key y.key ∧ VR φ e.val y.val ∧ e.born = y.born ∧ Ks j e = true) := by
  obtain ⟨g1, g2⟩ := findPK_sound hx he h
  obtain ⟨l, hl⟩ := pk_key hp hx hn hz
  refine ⟨fun em => hp.law.check w em hl, hp.law.stays w hl, ?_⟩
  have hall : ∀ e ∈ xs.toList, ∃ l, keyOf P k e.key = some l := fun e he => by
    obtain ⟨n', c', z', q1, q2, q3⟩ := g1 e he
    exact pk_key hp q1 q2 q3
  rcases hp.law.find w hl xs.toList hall with ⟨f1, f2⟩ | ⟨j, y, f1, f2, f3⟩
  · rcases g2 with ⟨_, g3⟩ | ⟨j, e, y, k1, k2, _⟩
    · exact .inl ⟨f1, g3⟩
    · exact absurd k2 (f2 y (List.mem_of_getElem? k1))
  · rcases g2 with ⟨g3, _⟩ | ⟨j', e, y', k1, k2, k3, k4, k5, k6, k7⟩
    · exact absurd f3 (g3 y (List.mem_of_getElem? f2))
    · have := k3 j y f2 f3
      subst this
      rw [f2] at k1; simp only [Option.some.injEq] at k1; subst k1
      exact .inr ⟨j, e, y, f1, by rw [← Array.getElem?_toList]; exact f2, f3, k4, k5, k6, by simpa using k7⟩
end Go.Ev
end
section
namespace Go.Ev
noncomputable def fLookupP (zv : V) (ok : Bool) : Rd := fun vs h K => match vs with
  | [.map b, key] => pkK key fun n c z => blkK h b fun k => (match k.d with
    | .map es _ => findPK n c z es 0 (Bool.rec (motive := fun _ => Bool) (K zv) (K (.tup [zv, .bool false])) ok) fun _ e => Bool.rec (motive := fun _ => Bool) (K e.val) (K (.tup [e.val, .bool true])) ok
    | _ => false)
  | _ => false
theorem fLookupP_sound {P : Program} {t kt et : TypeId} {x ix : Operand} {ok : Bool} {i : TypeInfo} {z : Value} {zv : V} (hu : P.underlying t = some (.map kt et)) (hp : PairKey P kt)
    (hi : P.info? et = some i) (hz : i.zero = some z) (hzv : ∀ φ, VR φ zv z) : RdSound P (.lookup t x ix ok) (fLookupP zv ok) := by
  intro o ho B φ h w ρ vs K hr hv hk
  unfold fLookupP at hk
  split at hk
  · rename_i b key
    obtain ⟨p, q, e, hp', hq⟩ := hv.two
    simp only [Op.operands, List.map_cons, List.map_nil, List.cons.injEq, and_true] at e
    obtain ⟨n, c, zz, rfl, hn, hz', hk⟩ := pkK_true hk
    obtain ⟨k, hb, hl, hk⟩ := blkK_true hk
    obtain ⟨L, hL, rfl⟩ := hp'.map_inv
    split at hk
    · rename_i es clock hd
      have hh := hr.hold b L k hL hb hl
      rw [hd] at hh
      obtain ⟨xs, h1, h2⟩ := hh
      obtain ⟨f1, f2, f3⟩ := run_findPK (P := P) (w := w) hp hq hn hz' h2 hk
      have hck := f1 xs.isEmpty
      rcases f3 with ⟨hf, h3⟩ | ⟨j, en, y, hf, _, _, _, h4, _, h5⟩
      · cases ok with
        | true =>
          refine ⟨_, .tuple #[z, .bool false], ?_, .tup (.cons (hzv φ) (.cons (.bool false) .nil)), h3⟩
          simp only [execOp, ho, e.1, e.2, Instr.lookup, Sem.run_bind, run_underlying hu, Result.andThen_ok, run_getObj h1, Sem.run_pure, hck, hf, run_zeroValue hi hz, if_true]
        | false =>
          refine ⟨_, z, ?_, hzv φ, h3⟩
          simp only [execOp, ho, e.1, e.2, Instr.lookup, Sem.run_bind, run_underlying hu, Result.andThen_ok, run_getObj h1, Sem.run_pure, hck, hf, run_zeroValue hi hz, Bool.false_eq_true, if_false]
      · cases ok with
        | true =>
          refine ⟨_, .tuple #[y.val, .bool true], ?_, .tup (.cons h4 (.cons (.bool true) .nil)), h5⟩
          simp only [execOp, ho, e.1, e.2, Instr.lookup, Sem.run_bind, run_underlying hu, Result.andThen_ok, run_getObj h1, Sem.run_pure, hck, hf, if_true]
        | false =>
          refine ⟨_, y.val, ?_, h4, h5⟩
          simp only [execOp, ho, e.1, e.2, Instr.lookup, Sem.run_bind, run_underlying hu, Result.andThen_ok, run_getObj h1, Sem.run_pure, hck, hf, Bool.false_eq_true, if_false]
    · exact absurd hk (by simp)
  · exact absurd hk (by simp)
theorem HR.mapped' {B : Bd} {φ : Phi} {h h' : H} {w : World} {b : Nat} {k : Blk} {L : Loc} {es : List Ent} {xs ys : Array MapEntry} {c c' : Nat} (hr : HR B φ h w) (hw : Wrote h b k k.n (.map es c') h') (hl : Live h b k) (hL : φ b = some L)
    (h1 : w.heap[L.blk]? = some (.map xs c)) (he : Ents φ es ys.toList) : HR B φ h' { w with heap := w.heap.setIfInBounds L.blk (.map ys c') } ∧ Below B w { w with heap := w.heap.setIfInBounds L.blk (.map ys c') } := by
  have hlt : L.blk < w.heap.size := (hr.dom b L hL).2.2
  refine ⟨hr.wrote hw hl hL (by simp) (fun x hx => ?_) (fun c0 e0 fr0 h0 => by rw [h1] at h0; simp at h0) ⟨ys, by simp [hlt], he⟩, Below.of_set (hr.dom b L hL).2.1 rfl rfl rfl (by simp) (fun x hx => ?_) h1 (fun ds e => by cases e)⟩
  · simp only []
    rw [Array.getElem?_setIfInBounds_ne (fun e => hx e.symm)]
  · simp only []
    rw [Array.getElem?_setIfInBounds_ne (fun e => hx e.symm)]
noncomputable def fMapUpdP : Ef := fun vs h K => match vs with
  | [.map b, key, v] => pkK key fun n c z => blkK h b fun k => (match k.d with
    | .map es clock => findPK n c z es 0 (snocK es ⟨key, v, clock⟩ fun es => natK (Nat.succ clock) fun c => wrK h b k (.map es c) fun h' => K undefV h') fun i _ => setEK es i key v fun es => wrK h b k (.map es clock) fun h' => K undefV h'
    | _ => false)
  | _ => false
theorem fMapUpdP_sound {P : Program} {t kt et : TypeId} {m kx x : Operand} (hu : P.underlying t = some (.map kt et)) (hp : PairKey P kt) : EfSound P (.mapUpdate t m kx x) fMapUpdP := by
  intro o ho B φ h w ρ vs K hr hv hk
  unfold fMapUpdP at hk
  split at hk
  · rename_i b key v
    obtain ⟨p, q, r, e, hp', hq, hr'⟩ := hv.three
    simp only [Op.operands, List.map_cons, List.map_nil, List.cons.injEq, and_true] at e
    obtain ⟨n, c, zz, rfl, hn, hz', hk⟩ := pkK_true hk
    obtain ⟨k, hb, hl, hk⟩ := blkK_true hk
    obtain ⟨L, hL, rfl⟩ := hp'.map_inv
    split at hk
    · rename_i es clock hdd
      have hh := hr.hold b L k hL hb hl
      rw [hdd] at hh
      obtain ⟨xs, h1, h2⟩ := hh
      obtain ⟨f1, f2, f3⟩ := run_findPK (P := P) (w := w) hp hq hn hz' h2 hk
      have hck := f1 false
      rcases f3 with ⟨hf, h4⟩ | ⟨j, en, y, hf, hj, hjk, h3, h4, h5', h5⟩
      · rw [snocK_eq, natK_eq] at h4
        obtain ⟨h', h5, h6⟩ := wrK_true hb h4
        obtain ⟨g1, g2⟩ := hr.mapped' (ys := xs.push { key := q, val := r, born := clock }) h5 hl hL h1 (by rw [Array.toList_push]; exact Ents.snoc hq hr' rfl h2)
        refine ⟨undefV, h', φ, undef, _, .inr ⟨rfl, ?_⟩, Ext.refl φ, undefV_rel φ, g1, g2, h6⟩
        simp only [execOp, ho, e.1, e.2.1, e.2.2, Instr.mapUpdate, Sem.run_bind, run_underlying hu, Result.andThen_ok, run_getObj h1, hck, hf, run_setObj h1, Sem.run_pure]
      · obtain ⟨es', h6, h7⟩ := setEK_sound hq hr' h2 h5
        obtain ⟨h', h8, h9⟩ := wrK_true hb h6
        obtain ⟨g1, g2⟩ := hr.mapped' (ys := xs.modify j fun e => { e with key := q, val := r }) h8 hl hL h1 (by rw [Array.toList_modify]; exact h7)
        refine ⟨undefV, h', φ, undef, _, .inr ⟨rfl, ?_⟩, Ext.refl φ, undefV_rel φ, g1, g2, h9⟩
        simp only [execOp, ho, e.1, e.2.1, e.2.2, Instr.mapUpdate, Sem.run_bind, run_underlying hu, Result.andThen_ok, run_getObj h1, hck, hf, hj, Option.map_some, Option.getD_some, hjk, f2, run_setObj h1, Sem.run_pure]
    · exact absurd hk (by simp)
  · exact absurd hk (by simp)
noncomputable def fMapEntP (zv : V) : Ef := fun vs h K => match vs with
  | [.map b, key] => pkK key fun n c z => blkK h b fun k => (match k.d with
    | .map es clock => findPK n c z es 0 (snocK es ⟨key, zv, clock⟩ fun es => natK (Nat.succ clock) fun c => wrK h b k (.map es c) fun h' => K (.tup [zv, .int .i64 (.ofNat clock)]) h') fun i e => setEK es i key e.val fun es => wrK h b k (.map es clock) fun h' => K (.tup [e.val, .int .i64 (.ofNat e.born)]) h'
    | _ => false)
  | _ => false
theorem fMapEntP_sound {P : Program} {t kt et : TypeId} {m kx : Operand} {i : TypeInfo} {z : Value} {zv : V} (hu : P.underlying t = some (.map kt et)) (hp : PairKey P kt)
    (hi : P.info? et = some i) (hz : i.zero = some z) (hzv : ∀ φ, VR φ zv z) : EfSound P (.mapEntry t m kx) (fMapEntP zv) := by
  intro o ho B φ h w ρ vs K hr hv hk
  unfold fMapEntP at hk
  split at hk
  · rename_i b key
    obtain ⟨p, q, e, hp', hq⟩ := hv.two
    simp only [Op.operands, List.map_cons, List.map_nil, List.cons.injEq, and_true] at e
    obtain ⟨n, c, zz, rfl, hn, hz', hk⟩ := pkK_true hk
    obtain ⟨k, hb, hl, hk⟩ := blkK_true hk
    obtain ⟨L, hL, rfl⟩ := hp'.map_inv
    split at hk
    · rename_i es clock hdd
      have hh := hr.hold b L k hL hb hl
      rw [hdd] at hh
      obtain ⟨xs, h1, h2⟩ := hh
      obtain ⟨f1, f2, f3⟩ := run_findPK (P := P) (w := w) hp hq hn hz' h2 hk
      have hck := f1 false
      rcases f3 with ⟨hf, h4⟩ | ⟨j, en, y, hf, hj, hjk, h3, h4, h5', h5⟩
      · rw [snocK_eq, natK_eq] at h4
        obtain ⟨h', h5, h6⟩ := wrK_true hb h4
        obtain ⟨g1, g2⟩ := hr.mapped' (ys := xs.push { key := q, val := z, born := clock }) h5 hl hL h1 (by rw [Array.toList_push]; exact Ents.snoc hq (hzv φ) rfl h2)
        refine ⟨_, h', φ, .tuple #[z, .int .i64 clock], _, .inl ?_, Ext.refl φ, .tup (.cons (hzv φ) (.cons (.int _ _) .nil)), g1, g2, h6⟩
        simp only [execOp, ho, e.1, e.2, Instr.mapEntry, Sem.run_bind, run_underlying hu, Result.andThen_ok, run_getObj h1, hck, hf, run_zeroValue hi hz, run_setObj h1, Sem.run_pure]
        rfl
      · obtain ⟨es', h6, h7⟩ := setEK_sound hq h4 h2 h5
        obtain ⟨h', h8, h9⟩ := wrK_true hb h6
        have hm : (xs.modify j fun e => { e with key := q }) = xs.modify j fun e => { e with key := q, val := y.val } := by
          apply Array.ext_getElem?
          intro i'
          rw [Array.getElem?_modify, Array.getElem?_modify]
          by_cases e' : j = i'
          · subst e'; simp only [if_true, hj, Option.map_some]
          · simp only [if_neg e']
        obtain ⟨g1, g2⟩ := hr.mapped' (ys := xs.modify j fun e => { e with key := q }) h8 hl hL h1 (by rw [hm, Array.toList_modify]; exact h7)
        refine ⟨_, h', φ, .tuple #[y.val, .int .i64 y.born], _, .inl ?_, Ext.refl φ, .tup (.cons h4 (.cons (by rw [h5']; exact .int _ _) .nil)), g1, g2, h9⟩
        simp only [execOp, ho, e.1, e.2, Instr.mapEntry, Sem.run_bind, run_underlying hu, Result.andThen_ok, run_getObj h1, hck, hf, hj, Option.map_some, Option.getD_some, hjk, f2, run_setObj h1, Sem.run_pure]
        rfl
    · exact absurd hk (by simp)
  · exact absurd hk (by simp)
end Go.Ev
end
section
namespace Go.Ev
noncomputable def bornK (s : Nat) (es : List Ent) : Nat → (Nat → Ent → Bool) → Bool :=
  List.rec (motive := fun _ => Nat → (Nat → Ent → Bool) → Bool) (fun _ _ => false) (fun e _ ih i Ks => Bool.rec (motive := fun _ => Bool) (ih (Nat.succ i) Ks) (natK i fun i => Ks i e) (Nat.beq e.born s)) es
theorem bornK_sound {φ : Phi} {s : Nat} : ∀ {es : List Ent} {xs : List MapEntry} {i : Nat} {Ks : Nat → Ent → Bool}, Ents φ es xs → bornK s es i Ks = true →
    ∃ j e y, xs.findIdx? (fun e => (e.born : Int) == (s : Int)) = some j ∧ xs.find? (fun e => e.born == s) = some y ∧ xs[j]? = some y ∧ VR φ e.key y.key ∧ VR φ e.val y.val ∧ Ks (i + j) e = true
  | [], xs, i, Ks, he, h => absurd (show false = true from h) (by simp)
  | e :: es, xs, i, Ks, he, h => by
    cases he with | @cons _ y _ ys h1 h2 h3 h4 =>
    have h' : Bool.rec (motive := fun _ => Bool) (bornK s es (i + 1) Ks) (natK i fun i => Ks i e) (Nat.beq e.born s) = true := h
    cases hb : Nat.beq e.born s with
    | true =>
      rw [hb] at h'
      have h' : (natK i fun i => Ks i e) = true := h'
      rw [natK_eq] at h'
      have hb' : y.born = s := by rw [← h3]; exact Nat.eq_of_beq_eq_true hb
      exact ⟨0, e, y, by simp [List.findIdx?_cons, hb'], by simp [List.find?_cons, hb'], rfl, h1, h2, h'⟩
    | false =>
      rw [hb] at h'
      have hb' : y.born ≠ s := by rw [← h3]; intro e'; rw [e'] at hb; simp at hb
      obtain ⟨j, e', y', g1, g2, g3, g4, g5, g6⟩ := bornK_sound h4 h'
      refine ⟨j + 1, e', y', ?_, ?_, by rw [List.getElem?_cons_succ]; exact g3, g4, g5, by rw [show i + (j + 1) = i + 1 + j by omega]; exact g6⟩
      · rw [List.findIdx?_cons, if_neg (by simp; omega), g1]; rfl
      · rw [List.find?_cons, show (y.born == s) = false by simpa using hb']; exact g2
noncomputable def fEStore : Ef := fun vs h K => match vs with
  | [.map b, .int .i64 (.ofNat s), v] => blkK h b fun k => (match k.d with
    | .map es clock => bornK s es 0 fun i e => setEK es i e.key v fun es => wrK h b k (.map es clock) fun h' => K undefV h'
    | _ => false)
  | _ => false
theorem fEStore_sound {P : Program} {t : TypeId} {m s x : Operand} : EfSound P (.entryStore t m s x) fEStore := by
  intro o ho B φ h w ρ vs K hr hv hk
  unfold fEStore at hk
  split at hk
  · rename_i b s' v
    obtain ⟨p, q, r, e, hp', hq, hr'⟩ := hv.three
    simp only [Op.operands, List.map_cons, List.map_nil, List.cons.injEq, and_true] at e
    obtain ⟨k, hb, hl, hk⟩ := blkK_true hk
    obtain ⟨L, hL, rfl⟩ := hp'.map_inv
    have := hq.int_inv; subst this
    split at hk
    · rename_i es clock hdd
      have hh := hr.hold b L k hL hb hl
      rw [hdd] at hh
      obtain ⟨xs, h1, h2⟩ := hh
      obtain ⟨j, en, y, g1, _, g2, g3, g4, g5⟩ := bornK_sound h2 hk
      rw [Nat.zero_add] at g5
      obtain ⟨es', h6, h7⟩ := setEK_sound g3 hr' h2 g5
      obtain ⟨h', h8, h9⟩ := wrK_true hb h6
      have hm : (xs.modify j fun e => { e with val := r }) = xs.modify j fun e => { e with key := y.key, val := r } := by
        apply Array.ext_getElem?
        intro i'
        rw [Array.getElem?_modify, Array.getElem?_modify]
        by_cases e' : j = i'
        · subst e'; rw [← Array.getElem?_toList, g2]; simp
        · simp only [if_neg e']
      obtain ⟨z1, z2⟩ := hr.mapped' (ys := xs.modify j fun e => { e with val := r }) h8 hl hL h1 (by rw [hm, Array.toList_modify]; exact h7)
      refine ⟨undefV, h', φ, undef, _, .inr ⟨rfl, ?_⟩, Ext.refl φ, undefV_rel φ, z1, z2, h9⟩
      have hix : xs.findIdx? (fun e => (e.born : Int) == (s' : Int)) = some j := by rw [← g1]; cases xs; simp
      simp only [execOp, ho, e.1, e.2.1, e.2.2, Instr.entryStore, Sem.run_bind, Result.andThen_ok, run_getObj h1, asInt, asIntOf, Sem.run_pure, Int.ofNat_eq_natCast, hix, run_setObj h1]
    · exact absurd hk (by simp)
  · exact absurd hk (by simp)
theorem EfSound.insert {P : Program} {t : TypeId} {m k x : Operand} {f : Ef} (h : EfSound P (.mapUpdate t m k x) f) : EfSound P (.insert t m k x) f := by
  intro o ho B φ hh w ρ vs K hr hv hk
  obtain ⟨v, h', φ', y, w', g1, g2⟩ := h { o with op := .mapUpdate t m k x } rfl B φ hh w ρ vs K hr hv hk
  have e : execOp ρ o = execOp ρ { o with op := .mapUpdate t m k x } := by simp only [execOp, ho]
  exact ⟨v, h', φ', y, w', by rw [e]; exact g1, g2⟩
noncomputable def fRangeM : Ef := fun vs h K => match vs with
  | [.map b] => blkK h b fun k => (match k.d with
    | .map _ clock => addK h 0 (.mit b clock [] clock) none fun h' => K (.ptr h.next 0) h'
    | _ => false)
  | _ => false
theorem fRangeM_sound {P : Program} {t kt et : TypeId} {x : Operand} (hu : P.underlying t = some (.map kt et)) : EfSound P (.range t x) fRangeM := by
  intro o ho B φ h w ρ vs K hr hv hk
  unfold fRangeM at hk
  split at hk
  · rename_i b
    obtain ⟨p, e, hp⟩ := hv.one
    simp only [Op.operands, List.map_cons, List.map_nil, List.cons.injEq, and_true] at e
    obtain ⟨L, hL, rfl⟩ := hp.map_inv
    obtain ⟨k, hb, hl, hk⟩ := blkK_true hk
    split at hk
    · rename_i es clock hdd
      have hh := hr.hold b L k hL hb hl
      rw [hdd] at hh
      obtain ⟨xs, h1, h2⟩ := hh
      obtain ⟨h', ha, h3⟩ := addK_true hk
      have hn : φ h.next = none := hr.unmapped (Nat.le_refl _)
      have hg : h'.gr.get h.next = none := by rw [ha.gr]; exact hr.noGrp
      have hx : Ext φ (φ.put h.next ⟨w.heap.size, 0, 0⟩) := Phi.ext_put hn
      have hm := (hr.added ha).mapped (k := ⟨h.next, 0, 0, .mit b clock [] clock, none⟩) (w' := w.alloc (.mapIter (some L.blk) clock #[] clock)) (o := .mapIter (some L.blk) clock #[] clock) (cs := 0) (hr.noU (Nat.le_refl _)) hn (by rw [ha.bl, if_pos rfl]) (fun G hG => by
        simp only [] at hG; rw [hg] at hG; exact absurd hG (by simp)) (fun _ => rfl) rfl (fun e he => by simp at he) ⟨L, hL, heap_alloc_new w _, rfl⟩
      refine ⟨_, h', φ.put h.next ⟨w.heap.size, 0, 0⟩, .pointer (some ⟨w.heap.size, 0, none⟩), w.alloc (.mapIter (some L.blk) clock #[] clock), .inl ?_, hx, ?_, hm, Below.of_push hr.size rfl rfl rfl rfl, h3⟩
      · simp only [execOp, ho, e, Sem.run_bind, run_range_map w t kt et L.blk xs clock hu h1, Result.andThen_ok, Sem.run_pure]
      · have := VR.ptr (φ := φ.put h.next ⟨w.heap.size, 0, 0⟩) (b := h.next) (off := 0) (Phi.put_self _ _ _)
        simpa using this
    · exact absurd hk (by simp)
  · exact absurd hk (by simp)
noncomputable def seenN (s : Nat) (l : List Nat) : Bool := List.rec (motive := fun _ => Bool) false (fun a _ ih => Bool.rec (motive := fun _ => Bool) ih true (Nat.beq a s)) l
theorem seenN_eq (s : Nat) : ∀ l : List Nat, seenN s l = l.contains s
  | [] => rfl
  | a :: l => by
    have e : seenN s (a :: l) = Bool.rec (motive := fun _ => Bool) (seenN s l) true (Nat.beq a s) := rfl
    rw [e, seenN_eq s l]
    cases h : Nat.beq a s with
    | true => have := Nat.eq_of_beq_eq_true h; subst this; simp
    | false =>
      have : a ≠ s := fun e => by rw [e] at h; simp at h
      show l.contains s = (a :: l).contains s
      rw [List.contains_cons, show (s == a) = false by simpa using fun e : s = a => this e.symm, Bool.false_or]
noncomputable def leftK (since : Nat) (seen : List Nat) (es : List Ent) : (List Ent → Bool) → Bool :=
  List.rec (motive := fun _ => (List Ent → Bool) → Bool) (fun K => K []) (fun e _ ih K => bif Nat.blt e.born since then ih fun l => Bool.rec (motive := fun _ => Bool) (K (e :: l)) (K l) (seenN e.born seen) else false) es
theorem leftK_true {φ : Phi} {since : Nat} {seen : List Nat} : ∀ {es : List Ent} {xs : List MapEntry} {K : List Ent → Bool}, Ents φ es xs → leftK since seen es K = true →
    (∀ x ∈ xs, x.born < since) ∧ ∃ l, K l = true ∧ Ents φ l (xs.filter fun e => !seen.contains e.born)
  | [], xs, K, he, h => by cases he; exact ⟨by simp, [], h, .nil⟩
  | e :: es, xs, K, he, h => by
    cases he with | @cons _ y _ ys h1 h2 h3 h4 =>
    obtain ⟨g1, g2⟩ := bif_true (show (bif Nat.blt e.born since then leftK since seen es fun l => Bool.rec (motive := fun _ => Bool) (K (e :: l)) (K l) (seenN e.born seen) else false) = true from h)
    obtain ⟨g3, l, g4, g5⟩ := leftK_true h4 g2
    have hb := blt_iff.1 g1
    rw [h3] at hb
    refine ⟨fun x hx => ?_, ?_⟩
    · rcases List.mem_cons.1 hx with rfl | hx
      · exact hb
      · exact g3 x hx
    · rw [seenN_eq, h3] at g4
      rw [List.filter_cons]
      cases hc : seen.contains y.born with
      | true => rw [hc] at g4; exact ⟨l, g4, by simpa using g5⟩
      | false => rw [hc] at g4; exact ⟨e :: l, g4, by simpa using Ents.cons h1 h2 h3 g5⟩
noncomputable def snocN (l : List Nat) (a : Nat) : List Nat := List.rec (motive := fun _ => List Nat) [a] (fun b _ ih => b :: ih) l
theorem snocN_eq : ∀ (l : List Nat) (a : Nat), snocN l a = l ++ [a]
  | [], a => rfl
  | b :: l, a => congrArg (b :: ·) (snocN_eq l a)
noncomputable def fNextM : Ef := fun vs h K => match vs with
  | [.ptr it off] => bif Nat.beq off 0 then blkK h it fun ki => (match ki.d with
    | .mit b since seen last => bif Nat.ble since last then blkK h b fun k => (match k.d with
      | .map es clock => leftK since seen es fun l => (match l with
        | [] => K (.tup [.bool false]) h
        | [e] => wrK h it ki (.mit b since (snocN seen e.born) clock) fun h' => K (.tup [.bool true, e.key, e.val]) h'
        | _ => false)
      | _ => false) else false
    | _ => false) else false
  | _ => false
theorem fNextM_sound {P : Program} {x : Operand} : EfSound P (.next x false) fNextM := by
  intro o ho B φ h w ρ vs K hr hv hk
  unfold fNextM at hk
  split at hk
  · rename_i it off
    obtain ⟨p, e, hp⟩ := hv.one
    simp only [Op.operands, List.map_cons, List.map_nil, List.cons.injEq, and_true] at e
    obtain ⟨Li, hLi, rfl⟩ := hp.ptr_inv
    obtain ⟨h0, hk⟩ := bif_true hk
    have := Nat.eq_of_beq_eq_true h0; subst this
    obtain ⟨ki, hbi, hli, hk⟩ := blkK_true hk
    split at hk
    · rename_i b since seen last hdi
      obtain ⟨hsl, hk⟩ := bif_true hk
      have hsl := ble_of hsl
      have hhi := hr.hold it Li ki hLi hbi hli
      rw [hdi] at hhi
      obtain ⟨L, hL, hi1, hi0⟩ := hhi
      obtain ⟨k, hb, hl, hk⟩ := blkK_true hk
      split at hk
      · rename_i es clock hdd
        have hh := hr.hold b L k hL hb hl
        rw [hdd] at hh
        obtain ⟨xs, h1, h2⟩ := hh
        obtain ⟨hold, l, hk, hel⟩ := leftK_true h2 hk
        have hleft : (leftOf xs seen.toArray).toList = xs.toList.filter fun e => !seen.contains e.born := by
          unfold leftOf; rw [Array.toList_filter]; congr 1; funext e; simp
        have hrun := run_next_at (P := P) w o.type Li.blk L.blk since last seen.toArray xs clock hi1 h1 hold hsl
        rw [hi0] at e
        have hop : (execOp ρ o).run P w = ((Instr.next (.pointer (some ⟨Li.blk, 0, none⟩)) false o.type).run P w).andThen fun v w' => .ok (.value v) w' := by
          simp only [execOp, ho, e, Nat.add_zero, Sem.run_bind, Sem.run_pure]
        rw [← hleft] at hel
        have hsz : (leftOf xs seen.toArray).size = (leftOf xs seen.toArray).toList.length := by simp
        split at hk
        ·
          cases hle : (leftOf xs seen.toArray).toList with
          | cons _ _ => rw [hle] at hel; cases hel
          | nil =>
            rcases hrun with ⟨_, hrun⟩ | ⟨y, hy, _⟩
            · exact ⟨_, h, φ, .tuple #[.bool false], w, .inl (by rw [hop, hrun]; rfl), Ext.refl φ, .tup (.cons (.bool _) .nil), hr, Below.refl _ _, hk⟩
            · rw [hle] at hy; simp at hy
        ·
          rename_i en
          cases hle : (leftOf xs seen.toArray).toList with
          | nil => rw [hle] at hel; cases hel
          | cons y ys =>
            rw [hle] at hel
            cases hel with | cons k1 k2 k3 k4 =>
            cases k4
            obtain ⟨h', hw, hk⟩ := wrK_true hbi hk
            rcases hrun with ⟨hz, _⟩ | ⟨y', hy, w1, hal, hrun⟩
            · rw [hsz, hle] at hz; simp at hz
            · rw [hle] at hy
              simp at hy; subst hy
              have hr1 : HR B φ h w1 ∧ Below B w w1 := by
                rcases hal with rfl | rfl
                · exact ⟨hr, Below.refl _ _⟩
                · exact ⟨hr.keep (Nat.le_refl _) (fun _ _ => rfl), ⟨⟨rfl, rfl, rfl, Nat.le_refl _, fun _ _ => rfl⟩, fun _ _ h => h⟩⟩
              have hi2 : w1.heap[Li.blk]? = some (.mapIter (some L.blk) since seen.toArray last) := by rcases hal with rfl | rfl <;> exact hi1
              have hlt : Li.blk < w1.heap.size := (hr1.1.dom it Li hLi).2.2
              have hset : ChangeMaps.setBlock w1 Li.blk (.mapIter (some L.blk) since (seen.toArray.push y'.born) clock) = { w1 with heap := w1.heap.setIfInBounds Li.blk (.mapIter (some L.blk) since (seen.toArray.push y'.born) clock) } := rfl
              rw [hset] at hrun
              refine ⟨_, h', φ, .tuple #[.bool true, y'.key, y'.val], _, .inl (by rw [hop, hrun]; rfl), Ext.refl φ, .tup (.cons (.bool _) (.cons k1 (.cons k2 .nil))), ?_, ?_, hk⟩
              · refine hr1.1.wrote hw hli hLi (by simp) (fun z hz => ?_) (fun c0 e0 fr0 hc0 => by rw [hi2] at hc0; simp at hc0) ⟨L, hL, ?_, hi0⟩
                · simp only []
                  rw [Array.getElem?_setIfInBounds_ne (fun e => hz e.symm)]
                · rw [snocN_eq, k3]
                  simp [hlt]
              · refine hr1.2.trans (Below.of_set (hr1.1.dom it Li hLi).2.1 rfl rfl rfl (by simp) (fun z hz => ?_) hi2 (fun ds e => by cases e))
                simp only []
                rw [Array.getElem?_setIfInBounds_ne (fun e => hz e.symm)]
        · exact absurd hk (by simp)
      · exact absurd hk (by simp)
    · exact absurd hk (by simp)
  · exact absurd hk (by simp)
noncomputable def lastN (l : List Nat) : (Nat → Bool) → Bool := List.rec (motive := fun _ => (Nat → Bool) → Bool) (fun _ => false) (fun a r ih K => List.rec (motive := fun _ => Bool) (K a) (fun _ _ _ => ih K) r) l
theorem lastN_true : ∀ {l : List Nat} {K : Nat → Bool}, lastN l K = true → ∃ a, l.getLast? = some a ∧ K a = true
  | [], K, h => absurd (show false = true from h) (by simp)
  | [a], K, h => ⟨a, rfl, h⟩
  | a :: b :: l, K, h => by
    obtain ⟨c, h1, h2⟩ := lastN_true (l := b :: l) (K := K) h
    exact ⟨c, by rw [List.getLast?_cons_cons]; exact h1, h2⟩
noncomputable def fEntryM : Rd := fun vs h K => match vs with
  | [.ptr it off] => bif Nat.beq off 0 then blkK h it fun ki => (match ki.d with
    | .mit b since seen last => lastN seen fun s => blkK h b fun k => (match k.d with
      | .map es clock => bif Nat.beq clock last then bornK s es 0 fun _ e => K (.tup [e.key, e.val]) else false
      | _ => false)
    | _ => false) else false
  | _ => false
theorem fEntryM_sound {P : Program} {x : Operand} : RdSound P (.entry x) fEntryM := by
  intro o ho B φ h w ρ vs K hr hv hk
  unfold fEntryM at hk
  split at hk
  · rename_i it off
    obtain ⟨p, e, hp⟩ := hv.one
    simp only [Op.operands, List.map_cons, List.map_nil, List.cons.injEq, and_true] at e
    obtain ⟨Li, hLi, rfl⟩ := hp.ptr_inv
    obtain ⟨h0, hk⟩ := bif_true hk
    have := Nat.eq_of_beq_eq_true h0; subst this
    obtain ⟨ki, hbi, hli, hk⟩ := blkK_true hk
    split at hk
    · rename_i b since seen last hdi
      have hhi := hr.hold it Li ki hLi hbi hli
      rw [hdi] at hhi
      obtain ⟨L, hL, hi1, hi0⟩ := hhi
      obtain ⟨s, hs, hk⟩ := lastN_true hk
      obtain ⟨k, hb, hl, hk⟩ := blkK_true hk
      split at hk
      · rename_i es clock hdd
        obtain ⟨hcl, hk9⟩ := bif_true hk
        have hcl := Nat.eq_of_beq_eq_true hcl
        have hh := hr.hold b L k hL hb hl
        rw [hdd] at hh
        obtain ⟨xs, h1, h2⟩ := hh
        obtain ⟨j, en, y, g1, g2, g3, g4, g5, g6⟩ := bornK_sound h2 hk9
        have hf : xs.find? (fun e => e.born == s) = some y := by rw [← Array.find?_toList]; exact g2
        have hbk : seen.toArray.back? = some s := by simpa using hs
        rw [hi0] at e
        refine ⟨_, .tuple #[y.key, y.val], ?_, .tup (.cons g4 (.cons g5 .nil)), g6⟩
        have gi : (getObj Li.blk).run P w = .ok (.mapIter (some L.blk) since seen.toArray last) w := by simp only [getObj, Sem.run, hi1]
        simp only [execOp, ho, e, Nat.add_zero, Instr.entry, Sem.run_bind, gi, Result.andThen_ok, hbk, run_getObj h1, hcl, bne_self_eq_false, Bool.false_eq_true, if_false, hf, Sem.run_pure]
      · exact absurd hk (by simp)
    · exact absurd hk (by simp)
  · exact absurd hk (by simp)
end Go.Ev
end
