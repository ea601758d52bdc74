/- Part of the proof that card_holds ends in: an evaluator of closed runs over abstract memories, and that what it says holds of the model. -/
import Derived.Test.YtkobceanlhlmcaaGreatDoorA01
import Derived.Laws.StructEq
import Derived.Lib.SmallJoins
set_option linter.all false
section
namespace Go.Ev
theorem bytesLess_append : ∀ (a b s t : List UInt8), a.length = b.length → Op.bytesLess (a ++ s) (b ++ t) = (Op.bytesLess a b || (a == b && Op.bytesLess s t))
  | [], [], s, t, _ => by cases s <;> cases t <;> simp [Op.bytesLess]
  | [], _ :: _, _, _, h => by simp at h
  | _ :: _, [], _, _, h => by simp at h
  | x :: a, y :: b, s, t, h => by
    simp only [List.cons_append, Op.bytesLess, bytesLess_append a b s t (by simpa using h)]
    cases h1 : decide (x < y) <;> cases h2 : (x == y) <;> simp [h1, h2]
theorem bytesLess_dec : ∀ (n a b : Nat), a < 256 ^ n → b < 256 ^ n → Op.bytesLess (dec n a) (dec n b) = decide (a < b)
  | 0, a, b, ha, hb => by simp at ha hb; subst ha; subst hb; simp [dec, Op.bytesLess]
  | n + 1, a, b, ha, hb => by
    have hp : 0 < 256 ^ n := Nat.pow_pos (by decide)
    simp only [dec, Op.bytesLess]
    rw [bytesLess_dec n _ _ (Nat.mod_lt _ hp) (Nat.mod_lt _ hp)]
    have ha' : a / 256 ^ n < 256 := by rw [Nat.div_lt_iff_lt_mul hp, Nat.mul_comm, ← Nat.pow_succ]; exact ha
    have hb' : b / 256 ^ n < 256 := by rw [Nat.div_lt_iff_lt_mul hp, Nat.mul_comm, ← Nat.pow_succ]; exact hb
    have ea := Nat.div_add_mod a (256 ^ n)
    have eb := Nat.div_add_mod b (256 ^ n)
    have ma := Nat.mod_lt a hp
    have mb := Nat.mod_lt b hp
    generalize a / 256 ^ n = x at *
    generalize b / 256 ^ n = y at *
    generalize a % 256 ^ n = r at *
    generalize b % 256 ^ n = s at *
    generalize 256 ^ n = p at *
    have e1 : (decide (UInt8.ofNat x < UInt8.ofNat y)) = decide (x < y) := by
      rw [Bool.eq_iff_iff]; simp [UInt8.lt_iff_toNat_lt]; rw [Nat.mod_eq_of_lt ha', Nat.mod_eq_of_lt hb']
    have e2 : (UInt8.ofNat x == UInt8.ofNat y) = decide (x = y) := by
      rw [Bool.eq_iff_iff]; simp [← UInt8.toNat_inj]; rw [Nat.mod_eq_of_lt ha', Nat.mod_eq_of_lt hb']
    rw [e1, e2, Bool.eq_iff_iff]
    simp only [Bool.or_eq_true, decide_eq_true_eq, Bool.and_eq_true]
    subst ea; subst eb
    rcases Nat.lt_trichotomy x y with h | h | h
    · have : p * x + p ≤ p * y := by rw [← Nat.mul_succ]; exact Nat.mul_le_mul_left _ h
      constructor
      · intro _; omega
      · intro _; exact .inl h
    · subst h
      constructor
      · rintro (h | ⟨_, h⟩) <;> omega
      · intro h; right; exact ⟨rfl, by omega⟩
    · have : p * y + p ≤ p * x := by rw [← Nat.mul_succ]; exact Nat.mul_le_mul_left _ h
      constructor
      · rintro (h' | ⟨h', _⟩) <;> omega
      · intro _; omega
theorem dec_eq (n m a b : Nat) (ha : a < 256 ^ n) (hb : b < 256 ^ m) : (dec n a == dec m b) = (Nat.beq n m && Nat.beq a b) := by
  rw [Bool.eq_iff_iff]
  simp only [beq_iff_eq, Bool.and_eq_true, Nat.beq_eq]
  constructor
  · intro h
    have hl := congrArg List.length h
    rw [dec_length, dec_length] at hl; subst hl
    exact ⟨rfl, dec_inj n a b ha hb h⟩
  · rintro ⟨rfl, rfl⟩; rfl
def sLt (n a m b : Nat) : Bool :=
  bif Nat.blt n m then
    (bif Nat.blt a (Nat.shiftRight b (8 * (m - n))) then true else Nat.beq a (Nat.shiftRight b (8 * (m - n))))
  else Nat.blt (Nat.shiftRight a (8 * (n - m))) b
theorem shr_eq (a k : Nat) : Nat.shiftRight a (8 * k) = a / 256 ^ k := by
  show a >>> (8 * k) = _
  rw [Nat.shiftRight_eq_div_pow, Nat.pow_mul]
theorem shl_eq (a k : Nat) : Nat.shiftLeft a (8 * k) = a * 256 ^ k := by
  show a <<< (8 * k) = _
  rw [Nat.shiftLeft_eq, Nat.pow_mul]
theorem sLt_eq (n a m b : Nat) (ha : a < 256 ^ n) (hb : b < 256 ^ m) : sLt n a m b = Op.bytesLess (dec n a) (dec m b) := by
  unfold sLt
  rw [shr_eq, shr_eq]
  by_cases h : n < m
  · rw [blt_iff.2 h, cond_true]
    obtain ⟨d, rfl⟩ : ∃ d, m = n + (d + 1) := ⟨m - n - 1, by omega⟩
    rw [show n + (d + 1) - n = d + 1 by omega, dec_split n (d + 1) b]
    have hb' : b / 256 ^ (d + 1) < 256 ^ n := by
      rw [Nat.div_lt_iff_lt_mul (Nat.pow_pos (by decide)), ← Nat.pow_add]; exact hb
    have := bytesLess_append (dec n a) (dec n (b / 256 ^ (d + 1))) [] (dec (d + 1) (b % 256 ^ (d + 1))) (by simp [dec_length])
    rw [List.append_nil] at this
    rw [this, bytesLess_dec n _ _ ha hb', dec_eq n n _ _ ha hb']
    have e : Op.bytesLess [] (dec (d + 1) (b % 256 ^ (d + 1))) = true := rfl
    rw [e, Bool.and_true]
    simp only [Nat.beq_refl, Bool.true_and]
    cases hx : Nat.blt a (b / 256 ^ (d + 1)) with
    | true => rw [blt_iff] at hx; simp [hx]
    | false =>
      have : ¬ a < b / 256 ^ (d + 1) := fun h => by rw [blt_iff.2 h] at hx; exact absurd hx (by simp)
      simp [this]
  · have e : Nat.blt n m = false := by rw [Bool.eq_false_iff]; exact fun e => h (blt_iff.1 e)
    rw [e, cond_false]
    obtain ⟨d, rfl⟩ : ∃ d, n = m + d := ⟨n - m, by omega⟩
    rw [show m + d - m = d by omega, dec_split m d a]
    have ha' : a / 256 ^ d < 256 ^ m := by
      rw [Nat.div_lt_iff_lt_mul (Nat.pow_pos (by decide)), ← Nat.pow_add]; exact ha
    have := bytesLess_append (dec m (a / 256 ^ d)) (dec m b) (dec d (a % 256 ^ d)) [] (by simp [dec_length])
    rw [List.append_nil] at this
    rw [this, bytesLess_dec m _ _ ha' hb]
    have e : Op.bytesLess (dec d (a % 256 ^ d)) [] = false := by cases dec d (a % 256 ^ d) <;> rfl
    rw [e, Bool.and_false, Bool.or_false, Bool.eq_iff_iff, blt_iff]; simp
noncomputable def strK (n c : Nat) (K : V → Bool) : Bool := natK n fun n => natK c fun c => K (.str n c)
theorem strK_eq (n c : Nat) (K : V → Bool) : strK n c K = K (.str n c) := by unfold strK; rw [natK_eq, natK_eq]
noncomputable def fStr (op : BinOp) (n a m b : Nat) (K : V → Bool) : Bool :=
  match op with
  | .add => bif Nat.ble (n + m) 4611686018427387904 then strK (n + m) (Nat.shiftLeft a (8 * m) + b) K else false
  | .eql => boolK (Nat.beq n m && Nat.beq a b) fun z => K (.bool z)
  | .neq => boolK (!(Nat.beq n m && Nat.beq a b)) fun z => K (.bool z)
  | .lss => boolK (sLt n a m b) fun z => K (.bool z)
  | .leq => boolK (sLt n a m b || (Nat.beq n m && Nat.beq a b)) fun z => K (.bool z)
  | .gtr => boolK (!(sLt n a m b || (Nat.beq n m && Nat.beq a b))) fun z => K (.bool z)
  | .geq => boolK (!sLt n a m b) fun z => K (.bool z)
  | _ => false
theorem size_of_dec {s : ByteArray} {n c : Nat} (h : s.data.toList = dec n c) : s.size = n := by
  have := congrArg List.length h
  rw [dec_length] at this
  simpa using this
theorem fStr_sound {P : Program} {w : World} {op : BinOp} {n a m b : Nat} {s t : ByteArray} {K : V → Bool} (hs : s.data.toList = dec n a) (ha : a < 256 ^ n) (ht : t.data.toList = dec m b) (hb : b < 256 ^ m)
    (h : fStr op n a m b K = true) : ∃ v x, (Op.stringOp op s t).run P w = .ok x w ∧ (∀ φ, VR φ v x) ∧ K v = true := by
  have e1 : (s.toList == t.toList) = (Nat.beq n m && Nat.beq a b) := by rw [ByteArray.toList_eq, ByteArray.toList_eq, hs, ht, dec_eq _ _ _ _ ha hb]
  have e2 : Op.bytesLess s.toList t.toList = sLt n a m b := by rw [ByteArray.toList_eq, ByteArray.toList_eq, hs, ht, sLt_eq _ _ _ _ ha hb]
  cases op <;> simp only [fStr, boolK_eq, strK_eq] at h
  case add =>
    simp only [Bool.cond_eq_ite, Nat.ble_eq] at h
    split at h
    · rename_i hle
      refine ⟨_, .string (s ++ t), ?_, fun φ => .str ?_ ?_, h⟩
      · have h1 := size_of_dec hs
        have h2 := size_of_dec ht
        simp only [Op.stringOp]
        rw [h1, h2, if_neg (by simp only [IntKind.max, IntKind.bits, IntKind.signed, if_true]; omega)]
        rfl
      · rw [Go.Joins.data_append, hs, ht, shl_eq, dec_append _ _ _ _ hb]
      · rw [shl_eq, Nat.pow_add]
        have : (a + 1) * 256 ^ m ≤ 256 ^ n * 256 ^ m := Nat.mul_le_mul_right _ ha
        rw [Nat.succ_mul] at this
        omega
    · exact absurd h (by simp)
  case eql => exact ⟨_, _, by simp only [Op.stringOp]; rw [e1]; rfl, fun φ => .bool _, h⟩
  case neq => exact ⟨_, _, by simp only [Op.stringOp]; rw [e1]; rfl, fun φ => .bool _, h⟩
  case lss => exact ⟨_, _, by simp only [Op.stringOp]; rw [e2]; rfl, fun φ => .bool _, h⟩
  case leq => exact ⟨_, _, by simp only [Op.stringOp]; rw [e1, e2]; rfl, fun φ => .bool _, h⟩
  case gtr => exact ⟨_, _, by simp only [Op.stringOp]; rw [e1, e2]; rfl, fun φ => .bool _, h⟩
  case geq => exact ⟨_, _, by simp only [Op.stringOp]; rw [e2]; rfl, fun φ => .bool _, h⟩
  all_goals exact absurd h (by simp)
end Go.Ev
end
section
namespace Go.Ev
def kix : IntKind → Nat
  | .i8 => 0 | .i16 => 1 | .i32 => 2 | .i64 => 3 | .u8 => 4 | .u16 => 5 | .u32 => 6 | .u64 => 7
theorem kix_inj {a b : IntKind} (h : Nat.beq (kix a) (kix b) = true) : a = b := by
  cases a <;> cases b <;> first | rfl | (exact absurd h (by decide))
noncomputable def fBin (op : BinOp) : Rd := fun vs _ K =>
  match vs with
  | [.int k a, .int k' b] => bif Nat.beq (kix k) (kix k') then fInt op k a b K else false
  | [.str n a, .str m b] => fStr op n a m b K
  | _ => false
def plainBin : BinOp → Bool
  | .shl | .shr => false
  | _ => true
theorem fBin_sound {P : Program} {op : BinOp} {t yt : TypeId} {x y : Operand} (hop : plainBin op = true) : RdSound P (.binOp op t x y yt) (fBin op) := by
  intro o ho B φ h w ρ vs K hr hv hk
  simp only [Op.operands] at hv
  unfold fBin at hk
  split at hk
  · rename_i k a k' b
    obtain ⟨p, q, e, hp, hq⟩ := hv.two
    simp only [List.map_cons, List.map_nil, List.cons.injEq, and_true] at e
    have hp := hp.int_inv
    have hq := hq.int_inv
    cases hkk : Nat.beq (kix k) (kix k') with
    | false => simp [hkk] at hk
    | true =>
      simp only [hkk, cond_true] at hk
      have := kix_inj hkk; subst this
      obtain ⟨v, r, hrun, hvr, hK⟩ := fInt_sound (P := P) (w := w) hk
      refine ⟨v, r, ?_, hvr φ, hK⟩
      simp only [execOp, ho]
      rw [e.1, e.2, hp, hq]
      have hg : (eqGuard op t x y (.int k a) (.int k b)).run P w = .ok () w := by
        unfold eqGuard; cases op <;> rfl
      have hb : binOp op t (.int k a) (.int k b) = intSem op k a b := by
        cases op <;> first | (exact absurd hop (by decide)) | (unfold binOp; simp [intSem])
      simp only [Sem.run_bind, hg, Result.andThen_ok, hb, hrun, Sem.run_pure]
  · rename_i n a m b
    obtain ⟨p, q, e, hp, hq⟩ := hv.two
    simp only [List.map_cons, List.map_nil, List.cons.injEq, and_true] at e
    obtain ⟨s, rfl, hs, hs'⟩ := hp.str_inv
    obtain ⟨u, rfl, hu, hu'⟩ := hq.str_inv
    obtain ⟨v, r, hrun, hvr, hK⟩ := fStr_sound (P := P) (w := w) hs hs' hu hu' hk
    refine ⟨v, r, ?_, hvr φ, hK⟩
    simp only [execOp, ho]
    rw [e.1, e.2]
    have hg : (eqGuard op t x y (.string s) (.string u)).run P w = .ok () w := by
      unfold eqGuard; cases op <;> rfl
    have hb : binOp op t (.string s) (.string u) = Op.stringOp op s u := by cases op <;> rfl
    simp only [Sem.run_bind, hg, Result.andThen_ok, hb, hrun, Sem.run_pure]
  · exact absurd hk (by simp)
noncomputable def fShift (left : Bool) : Rd := fun vs _ K =>
  match vs with
  | [.int k (.ofNat a), .int _ (.ofNat n)] =>
    cond left (intK (wr k (.ofNat (Nat.shiftLeft a (bif Nat.ble n k.bits then n else k.bits)))) fun z => K (.int k z))
      (natK (Nat.shiftRight a (bif Nat.ble n k.bits then n else k.bits)) fun z => K (.int k (.ofNat z)))
  | _ => false
theorem min_eq (n m : Nat) : (bif Nat.ble n m then n else m) = min n m := by
  rw [Bool.cond_eq_ite]; simp only [Nat.ble_eq, Nat.min_def]
theorem fShift_sound {P : Program} {t yt : TypeId} {x y : Operand} (left : Bool) : RdSound P (.binOp (if left then .shl else .shr) t x y yt) (fShift left) := by
  intro o ho B φ h w ρ vs K hr hv hk
  simp only [Op.operands] at hv
  unfold fShift at hk
  split at hk
  · rename_i k a k' n
    obtain ⟨p, q, e, hp, hq⟩ := hv.two
    simp only [List.map_cons, List.map_nil, List.cons.injEq, and_true] at e
    have hp := hp.int_inv
    have hq := hq.int_inv
    simp only [intK_eq, natK_eq, wr_eq, min_eq] at hk
    cases left with
    | true =>
      simp only [cond_true, if_true] at hk ho ⊢
      refine ⟨_, _, ?_, .int _ _, hk⟩
      simp only [execOp, ho]
      rw [e.1, e.2, hp, hq]
      have hg : (eqGuard .shl t x y (.int k (.ofNat a)) (.int k' (.ofNat n))).run P w = .ok () w := rfl
      simp only [Sem.run_bind, hg, Result.andThen_ok, binOp, Op.shift]
      rw [if_neg (by simp)]
      simp only [Sem.run_pure, Result.andThen_ok]
      congr 4
      show (a : Int) * 2 ^ (min n k.bits) = ((a <<< (min n k.bits) : Nat) : Int)
      rw [Nat.shiftLeft_eq]
      simp
    | false =>
      simp only [cond_false, Bool.false_eq_true, if_false] at hk ho ⊢
      refine ⟨_, _, ?_, .int _ _, hk⟩
      simp only [execOp, ho]
      rw [e.1, e.2, hp, hq]
      have hg : (eqGuard .shr t x y (.int k (.ofNat a)) (.int k' (.ofNat n))).run P w = .ok () w := rfl
      simp only [Sem.run_bind, hg, Result.andThen_ok, binOp, Op.shift]
      rw [if_neg (by simp)]
      simp only [Sem.run_pure, Result.andThen_ok]
      congr 3
      show Int.fdiv (a : Int) _ = ((a >>> (min n k.bits) : Nat) : Int)
      rw [Nat.shiftRight_eq_div_pow]
      show Int.fdiv (a : Int) (2 ^ (min n k.bits)) = _
      have h2 : (2 : Int) ^ (min n k.bits) = ((2 ^ (min n k.bits) : Nat) : Int) := by simp
      rw [h2, Int.fdiv_eq_ediv_of_nonneg _ (Int.natCast_nonneg _)]
      simp
  · exact absurd hk (by simp)
noncomputable def fEqB (neg : Bool) : Rd := fun vs _ K =>
  match vs with
  | [.bool a, .bool b] => boolK (bne neg (a == b)) fun z => K (.bool z)
  | _ => false
theorem fEqB_sound {P : Program} {t yt : TypeId} {x y : Operand} (neg : Bool) (ht : P.underlying t = some .bool) : RdSound P (.binOp (if neg then .neq else .eql) t x y yt) (fEqB neg) := by
  intro o ho B φ h w ρ vs K hr hv hk
  simp only [Op.operands] at hv
  unfold fEqB at hk
  split at hk
  · rename_i a b
    obtain ⟨p, q, e, hp, hq⟩ := hv.two
    simp only [List.map_cons, List.map_nil, List.cons.injEq, and_true] at e
    have hp := hp.bool_inv
    have hq := hq.bool_inv
    rw [boolK_eq] at hk
    refine ⟨_, _, ?_, .bool _, hk⟩
    simp only [execOp, ho]
    rw [e.1, e.2, hp, hq]
    have he : (Op.equal t (.bool a) (.bool b)).run P w = .ok (a == b) w := run_equalIn_bool w 9999 t a b ht
    cases neg with
    | true =>
      have hg : (eqGuard .neq t x y (.bool a) (.bool b)).run P w = .ok () w := rfl
      simp [Sem.run_bind, hg, binOp, he]
    | false =>
      have hg : (eqGuard .eql t x y (.bool a) (.bool b)).run P w = .ok () w := rfl
      simp [Sem.run_bind, hg, binOp, he]
  · exact absurd hk (by simp)
noncomputable def fEqNil (neg : Bool) (c : Nat) : Rd := fun vs _ K =>
  match c, vs with
  | 0, [a, .nilp] => (match a with | .nilp => K (.bool (!neg)) | .ptr _ _ => K (.bool neg) | _ => false)
  | 1, [a, .nils] => (match a with | .nils => K (.bool (!neg)) | .slice _ _ _ _ _ => K (.bool neg) | _ => false)
  | 2, [a, .nilm] => (match a with | .nilm => K (.bool (!neg)) | .map _ => K (.bool neg) | _ => false)
  | 3, [a, .nilf] => (match a with | .nilf => K (.bool (!neg)) | .func _ _ _ => K (.bool neg) | _ => false)
  | 4, [a, .nili] => (match a with | .nili => K (.bool (!neg)) | .iface _ _ => K (.bool neg) | _ => false)
  | _, _ => false
def kindOf : TypeDesc → Nat
  | .pointer _ => 0 | .slice _ => 1 | .map _ _ => 2 | .func _ _ _ => 3 | .interface _ => 4 | _ => 5
def nilable (d : TypeDesc) (y : Operand) : Bool :=
  match d with | .pointer _ | .slice _ | .map _ _ | .func _ _ _ => true | .interface _ => (match y with | .const _ => true | _ => false) | _ => false
def eqNil (d : TypeDesc) (p q : Value) : Option Bool :=
  match d, p, q with
  | .pointer _, .pointer none, .pointer b => some b.isNone
  | .pointer _, .pointer _, .pointer none => some false
  | .slice _, .slice none _ _, .slice b _ _ => some b.isNone
  | .slice _, .slice _ _ _, .slice none _ _ => some false
  | .map _ _, .map none, .map b => some b.isNone
  | .map _ _, .map _, .map none => some false
  | .func _ _ _, .nilFunc, .nilFunc => some true
  | .func _ _ _, .func _ _ _, .nilFunc => some false
  | .interface _, .nilIface, .nilIface => some true
  | .interface _, .iface _ _, .nilIface => some false
  | _, _, _ => none
theorem eqNil_run {P : Program} {t : TypeId} {d : TypeDesc} (hd : P.underlying t = some d) (dd : Nat) (p q : Value) (r : Bool) (w : World) (hm : eqNil d p q = some r) :
    (Op.equalIn (dd + 1) t p q).run P w = .ok r w := by
  have hu : (underlying t).run P w = .ok d w := by
    unfold underlying; simp [Sem.run_bind, hd]
  unfold eqNil at hm
  rw [Op.equalIn]
  split at hm <;> first
    | (simp only [Option.some.injEq] at hm; subst hm; simp only [Sem.run_bind, hu, Result.andThen_ok]; rfl)
    | (simp only [Option.some.injEq] at hm; subst hm; simp only [Sem.run_bind, hu, Result.andThen_ok]; split <;> simp_all)
    | exact absurd hm (by simp)
theorem eqGuard_plain {P : Program} {op : BinOp} {t : TypeId} {x y : Operand} {p q : Value} {w : World} (h : (∀ a, q ≠ .agg a) ∧ (q = .nilIface → ∃ v, y = .const v)) : (eqGuard op t x y p q).run P w = .ok () w := by
  cases q with
  | agg a => exact absurd rfl (h.1 a)
  | nilIface =>
    obtain ⟨v, rfl⟩ := h.2 rfl
    cases op <;> cases p <;> first | rfl | (cases x <;> rfl)
  | _ => cases op <;> cases p <;> rfl
theorem binOp_eq {t : TypeId} {p q : Value} (neg : Bool) (h : (match q with | .pointer none | .slice none _ _ | .map none | .nilFunc | .nilIface => True | _ => False)) :
    binOp (if neg then .neq else .eql) t p q = (do let r ← Op.equal t p q; pure (.bool (bne neg r))) := by
  cases neg <;> (split at h <;> first | exact h.elim | (cases p <;> first | rfl | simp [binOp, pure, bind, Sem.bind]))
theorem fEqNil_sound {P : Program} {t yt : TypeId} {x y : Operand} {d : TypeDesc} (neg : Bool) (hd : P.underlying t = some d) (ht : nilable d y = true) : RdSound P (.binOp (if neg then .neq else .eql) t x y yt) (fEqNil neg (kindOf d)) := by
  intro o ho B φ h w ρ vs K hr hv hk
  simp only [Op.operands] at hv
  have key : ∀ (p q : Value) (r : Bool), (eqGuard (if neg then .neq else .eql) t x y p q).run P w = .ok () w →
      (match q with | .pointer none | .slice none _ _ | .map none | .nilFunc | .nilIface => True | _ => False) →
      (Op.equal t p q).run P w = .ok r w → ρ x = p → ρ y = q → K (.bool (bne neg r)) = true →
      ∃ v x, (execOp ρ o).run P w = .ok (.value x) w ∧ VR φ v x ∧ K v = true := by
    intro p q r h1 h3 h4 h5 h6 h7
    refine ⟨_, .bool (bne neg r), ?_, .bool _, h7⟩
    simp only [execOp, ho]
    rw [h5, h6]
    simp only [Sem.run_bind, h1, Result.andThen_ok]
    rw [binOp_eq neg h3]
    simp only [Sem.run_bind, h4, Result.andThen_ok, Sem.run_pure]
  have hn1 : (bne neg true) = !neg := by cases neg <;> rfl
  have hn2 : (bne neg false) = neg := by cases neg <;> rfl
  unfold fEqNil at hk
  split at hk
  case h_6 => exact absurd hk (by simp)
  all_goals
    rename_i hc
    obtain ⟨p, q, e, hp, hq⟩ := hv.two
    simp only [List.map_cons, List.map_nil, List.cons.injEq, and_true] at e
    cases hq
    cases d <;> simp only [kindOf] at hc <;> try (exact absurd hc (by decide))
    split at hk
    case h_3 => exact absurd hk (by simp)
    all_goals
      have hy : ∀ z, ρ y = z → (z = .nilIface → ∃ v, y = .const v) := by
        intro z _ hz
        subst hz
        cases y <;> simp_all [nilable]
      cases hp <;> first
        | exact key _ _ true (eqGuard_plain ⟨by simp, hy _ e.2⟩) trivial (eqNil_run hd 9999 _ _ _ w rfl) e.1 e.2 (by rw [hn1]; exact hk)
        | exact key _ _ false (eqGuard_plain ⟨by simp, hy _ e.2⟩) trivial (eqNil_run hd 9999 _ _ _ w rfl) e.1 e.2 (by rw [hn2]; exact hk)
end Go.Ev
end
section
namespace Go.Ev
noncomputable def nthK {α : Type} (l : List α) : Nat → (α → Bool) → Bool :=
  List.rec (motive := fun _ => Nat → (α → Bool) → Bool) (fun _ _ => false) (fun a _ ih i K => Nat.rec (motive := fun _ => Bool) (K a) (fun j _ => ih j K) i) l
theorem nthK_true {α : Type} : ∀ {l : List α} {i : Nat} {K : α → Bool}, nthK l i K = true → ∃ a, l[i]? = some a ∧ K a = true
  | [], _, _, h => absurd h (by simp [nthK])
  | a :: l, 0, K, h => ⟨a, rfl, h⟩
  | a :: l, i + 1, K, h => by
    have := nthK_true (l := l) (i := i) (K := K) h
    simpa using this
noncomputable def takeK {α : Type} (n : Nat) : List α → (List α → Bool) → Bool :=
  Nat.rec (motive := fun _ => List α → (List α → Bool) → Bool) (fun _ K => K [])
    (fun _ ih l K => List.rec (motive := fun _ => Bool) false (fun a r _ => ih r fun s => K (a :: s)) l) n
theorem takeK_true {α : Type} : ∀ {n : Nat} {l : List α} {K : List α → Bool}, takeK n l K = true → n ≤ l.length ∧ K (l.take n) = true
  | 0, l, K, h => ⟨Nat.zero_le _, by rw [List.take_zero]; exact h⟩
  | n + 1, [], K, h => absurd h (by simp [takeK])
  | n + 1, a :: l, K, h => by
    have := takeK_true (n := n) (l := l) (K := fun s => K (a :: s)) h
    simpa using this
noncomputable def dropK {α : Type} (n : Nat) : List α → (List α → Bool) → Bool :=
  Nat.rec (motive := fun _ => List α → (List α → Bool) → Bool) (fun l K => K l)
    (fun _ ih l K => List.rec (motive := fun _ => Bool) false (fun _ r _ => ih r K) l) n
theorem dropK_true {α : Type} : ∀ {n : Nat} {l : List α} {K : List α → Bool}, dropK n l K = true → n ≤ l.length ∧ K (l.drop n) = true
  | 0, l, K, h => ⟨Nat.zero_le _, h⟩
  | n + 1, [], K, h => absurd h (by simp [dropK])
  | n + 1, a :: l, K, h => by
    have := dropK_true (n := n) (l := l) (K := K) h
    simpa using this
noncomputable def fId : Rd := fun vs _ K => match vs with | [v] => K v | _ => false
theorem fId_sound {P : Program} {x : Operand} : RdSound P (.move x) fId := by
  intro o ho B φ h w ρ vs K hr hv hk
  unfold fId at hk
  split at hk
  · obtain ⟨p, e, hp⟩ := hv.one
    simp only [Op.operands, List.map_cons, List.map_nil, List.cons.injEq, and_true] at e
    exact ⟨_, p, by simp only [execOp, ho, e]; rfl, hp, hk⟩
  · exact absurd hk (by simp)
theorem fId_sound' {P : Program} {x : Operand} : RdSound P (.assign x) fId := by
  intro o ho B φ h w ρ vs K hr hv hk
  unfold fId at hk
  split at hk
  · obtain ⟨p, e, hp⟩ := hv.one
    simp only [Op.operands, List.map_cons, List.map_nil, List.cons.injEq, and_true] at e
    exact ⟨_, p, by simp only [execOp, ho, e]; rfl, hp, hk⟩
  · exact absurd hk (by simp)
noncomputable def fPick : Rd := fun vs _ K => match vs with | [.bool c, a, b] => Bool.rec (motive := fun _ => Bool) (K b) (K a) c | _ => false
theorem fPick_sound {P : Program} {c a b : Operand} : RdSound P (.pick c a b) fPick := by
  intro o ho B φ h w ρ vs K hr hv hk
  unfold fPick at hk
  split at hk
  · rename_i c a b
    obtain ⟨p, q, r, e, hp, hq, hr'⟩ := hv.three
    simp only [Op.operands, List.map_cons, List.map_nil, List.cons.injEq, and_true] at e
    have hp := hp.bool_inv
    cases c with
    | true => exact ⟨_, q, by simp [execOp, ho, e, hp, asBool], hq, hk⟩
    | false => exact ⟨_, r, by simp [execOp, ho, e, hp, asBool], hr', hk⟩
  · exact absurd hk (by simp)
noncomputable def fNot : Rd := fun vs _ K => match vs with | [.bool c] => Bool.rec (motive := fun _ => Bool) (K (.bool true)) (K (.bool false)) c | _ => false
theorem fNot_sound {P : Program} {t : TypeId} {x : Operand} : RdSound P (.unOp .not t x) fNot := by
  intro o ho B φ h w ρ vs K hr hv hk
  unfold fNot at hk
  split at hk
  · rename_i c
    obtain ⟨p, e, hp⟩ := hv.one
    simp only [Op.operands, List.map_cons, List.map_nil, List.cons.injEq, and_true] at e
    have hp := hp.bool_inv
    cases c <;> exact ⟨_, _, by simp only [execOp, ho, e, hp, Op.unary]; rfl, .bool _, hk⟩
  · exact absurd hk (by simp)
noncomputable def fNeg : Rd := fun vs _ K => match vs with | [.int k a] => intK (wr k (0 - a)) fun z => K (.int k z) | _ => false
theorem fNeg_sound {P : Program} {t : TypeId} {x : Operand} : RdSound P (.unOp .neg t x) fNeg := by
  intro o ho B φ h w ρ vs K hr hv hk
  unfold fNeg at hk
  split at hk
  · rename_i k a
    obtain ⟨p, e, hp⟩ := hv.one
    simp only [Op.operands, List.map_cons, List.map_nil, List.cons.injEq, and_true] at e
    have hp := hp.int_inv
    rw [intK_eq, wr_eq] at hk
    exact ⟨_, _, by simp only [execOp, ho, e, hp, Op.unary, Op.intArith]; rfl, .int _ _, hk⟩
  · exact absurd hk (by simp)
noncomputable def fConv (k : IntKind) : Rd := fun vs _ K => match vs with | [.int _ a] => intK (wr k a) fun z => K (.int k z) | _ => false
theorem run_underlying {P : Program} {t : TypeId} {d : TypeDesc} (hd : P.underlying t = some d) (w : World) : (underlying t).run P w = .ok d w := by
  unfold underlying; simp [Sem.run_bind, hd]
theorem run_typeInfo {P : Program} {t : TypeId} {i : TypeInfo} (hd : P.info? t = some i) (w : World) : (typeInfo t).run P w = .ok i w := by
  unfold typeInfo; simp [Sem.run_bind, hd]
theorem run_sizeOf {P : Program} {t : TypeId} {i : TypeInfo} (hd : P.info? t = some i) (w : World) : (sizeOf t).run P w = .ok i.size w := by
  unfold sizeOf; simp [Sem.run_bind, run_typeInfo hd]
theorem run_zeroValue {P : Program} {t : TypeId} {i : TypeInfo} {z : Value} (hd : P.info? t = some i) (hz : i.zero = some z) (w : World) : (zeroValue t).run P w = .ok z w := by
  unfold zeroValue; simp [Sem.run_bind, run_typeInfo hd, hz]
def aggD : TypeDesc → Bool
  | .struct _ | .array _ _ => true
  | _ => false
theorem run_isAgg {P : Program} {t : TypeId} {d : TypeDesc} (hd : P.underlying t = some d) (w : World) : (isAgg t).run P w = .ok (aggD d) w := by
  unfold isAgg; simp only [Sem.run_bind, run_underlying hd, Result.andThen_ok]
  cases d <;> rfl
theorem fConv_sound {P : Program} {s t : TypeId} {x : Operand} {ds : TypeDesc} {k : IntKind} (hs : P.underlying s = some ds) (hk' : P.underlying t = some (.int k)) : RdSound P (.convert s t x) (fConv k) := by
  intro o ho B φ h w ρ vs K hr hv hk
  unfold fConv at hk
  split at hk
  · rename_i k' a
    obtain ⟨p, e, hp⟩ := hv.one
    simp only [Op.operands, List.map_cons, List.map_nil, List.cons.injEq, and_true] at e
    have hp := hp.int_inv
    rw [intK_eq, wr_eq] at hk
    refine ⟨_, _, ?_, .int _ _, hk⟩
    simp only [execOp, ho, e, hp, convert, Sem.run_bind, run_underlying hs, run_underlying hk', Result.andThen_ok]
    rfl
  · exact absurd hk (by simp)
noncomputable def fStrStr : Rd := fun vs _ K => match vs with | [.str n c] => K (.str n c) | _ => false
theorem fStrStr_sound {P : Program} {s t : TypeId} {x : Operand} {ds : TypeDesc} (hs : P.underlying s = some ds) (hk' : P.underlying t = some .string) : RdSound P (.convert s t x) fStrStr := by
  intro o ho B φ h w ρ vs K hr hv hk
  unfold fStrStr at hk
  split at hk
  · rename_i n c
    obtain ⟨p, e, hp⟩ := hv.one
    simp only [Op.operands, List.map_cons, List.map_nil, List.cons.injEq, and_true] at e
    have hp' := hp
    obtain ⟨u, rfl, _, _⟩ := hp.str_inv
    refine ⟨_, _, ?_, hp', hk⟩
    simp only [execOp, ho, e, convert, Sem.run_bind, run_underlying hs, run_underlying hk', Result.andThen_ok]
    rfl
  · exact absurd hk (by simp)
noncomputable def fExt (i : Nat) : Rd := fun vs _ K => match vs with | [.tup l] => nthK l i K | _ => false
theorem VR.tup_inv {φ : Phi} {l : List V} {x : Value} (h : VR φ (.tup l) x) : ∃ xs : Array Value, x = .tuple xs ∧ VRs φ l xs.toList := by
  cases h with | tup a => exact ⟨_, rfl, a⟩
theorem VR.agg_inv {φ : Phi} {l : List V} {x : Value} (h : VR φ (.agg l) x) : ∃ xs : Array Value, x = .agg xs ∧ VRs φ l xs.toList := by
  cases h with | agg a => exact ⟨_, rfl, a⟩
theorem fExt_sound {P : Program} {x : Operand} (i : Nat) : RdSound P (.extract x i) (fExt i) := by
  intro o ho B φ h w ρ vs K hr hv hk
  unfold fExt at hk
  split at hk
  · rename_i l
    obtain ⟨p, e, hp⟩ := hv.one
    simp only [Op.operands, List.map_cons, List.map_nil, List.cons.injEq, and_true] at e
    obtain ⟨xs, rfl, hxs⟩ := hp.tup_inv
    obtain ⟨a, ha, hK⟩ := nthK_true hk
    obtain ⟨y, hy, hvr⟩ := hxs.get ha
    refine ⟨_, y, ?_, hvr, hK⟩
    rw [Array.getElem?_toList] at hy
    simp only [execOp, ho, e, Instr.extract, hy]
    rfl
  · exact absurd hk (by simp)
noncomputable def partK (l : List V) (off n : Nat) (one : Bool) (K : V → Bool) : Bool :=
  Bool.rec (motive := fun _ => Bool) (dropK off l fun r => takeK n r fun s => K (.agg s)) (nthK l off K) one
theorem partK_sound {P : Program} {φ : Phi} {w : World} {l : List V} {xs : Array Value} {off : Nat} {K : V → Bool} {t : TypeId} {d : TypeDesc} {i : TypeInfo} (hl : VRs φ l xs.toList)
    (hd : P.underlying t = some d) (hi : P.info? t = some i) (h : partK l off i.size (!aggD d) K = true) :
    ∃ v x, (part t xs off).run P w = .ok x w ∧ VR φ v x ∧ K v = true := by
  unfold part
  simp only [Sem.run_bind, run_isAgg hd, Result.andThen_ok]
  cases ha : aggD d with
  | true =>
    rw [ha] at h
    obtain ⟨h1, h2⟩ := dropK_true h
    obtain ⟨h3, h4⟩ := takeK_true h2
    refine ⟨_, .agg (xs.extract off (off + i.size)), ?_, .agg ?_, h4⟩
    · simp only [if_true, Sem.run_bind, run_sizeOf hi, Result.andThen_ok, Sem.run_pure]
    · rw [Array.toList_extract, List.extract_eq_take_drop, Nat.add_sub_cancel_left]
      exact (hl.drop off).take i.size
  | false =>
    rw [ha] at h
    obtain ⟨a, h1, h2⟩ := nthK_true h
    obtain ⟨y, hy, hvr⟩ := hl.get h1
    rw [Array.getElem?_toList] at hy
    exact ⟨a, y, by simp [hy], hvr, h2⟩
noncomputable def fField (off n : Nat) (one : Bool) : Rd := fun vs _ K => match vs with | [.agg l] => partK l off n one K | _ => false
theorem fField_sound {P : Program} {t : TypeId} {x : Operand} {fi : Nat} {fs : Array Field} {f : Field} {d : TypeDesc} {i : TypeInfo} (hu : P.underlying t = some (.struct fs)) (hf : fs[fi]? = some f)
    (hd : P.underlying f.type = some d) (hi : P.info? f.type = some i) : RdSound P (.field t x fi) (fField f.offset i.size (!aggD d)) := by
  intro o ho B φ h w ρ vs K hr hv hk
  unfold fField at hk
  split at hk
  · rename_i l
    obtain ⟨p, e, hp⟩ := hv.one
    simp only [Op.operands, List.map_cons, List.map_nil, List.cons.injEq, and_true] at e
    obtain ⟨xs, rfl, hxs⟩ := hp.agg_inv
    obtain ⟨v, y, h1, h2, h3⟩ := partK_sound (P := P) (w := w) hxs hd hi hk
    refine ⟨v, y, ?_, h2, h3⟩
    simp only [execOp, ho, e, Instr.field, Sem.run_bind, run_underlying hu, Result.andThen_ok, hf, asAgg, Sem.run_pure, h1]
  · exact absurd hk (by simp)
noncomputable def fIdxStr : Rd := fun vs _ K => match vs with
  | [.str n c, .int _ (.ofNat i)] => bif Nat.blt i n then natK (Nat.mod (Nat.shiftRight c (8 * (n - 1 - i))) 256) fun z => K (.int .u8 (.ofNat z)) else false
  | _ => false
theorem fIdxStr_sound {P : Program} {t : TypeId} {x ix : Operand} (hu : P.underlying t = some .string) : RdSound P (.index t x ix) fIdxStr := by
  intro o ho B φ h w ρ vs K hr hv hk
  unfold fIdxStr at hk
  split at hk
  · rename_i n c k i
    obtain ⟨p, q, e, hp, hq⟩ := hv.two
    simp only [Op.operands, List.map_cons, List.map_nil, List.cons.injEq, and_true] at e
    obtain ⟨s, rfl, hs, hs'⟩ := hp.str_inv
    have hq := hq.int_inv
    simp only [Bool.cond_eq_ite, blt_iff, natK_eq] at hk
    split at hk
    · rename_i hi
      have hg := dec_get n i c hi
      rw [← hs, Array.getElem?_toList] at hg
      have hg' : s[i]? = some (UInt8.ofNat (c / 256 ^ (n - 1 - i))) := hg
      refine ⟨_, _, ?_, .int _ _, hk⟩
      simp only [execOp, ho, e.1, e.2, hq, Instr.index, asIntOf, Sem.run_bind, Sem.run_pure, Result.andThen_ok, run_underlying hu]
      rw [if_pos (by simp)]
      simp only [Int.ofNat_eq_natCast, Int.toNat_natCast, hg', Sem.run_pure, Result.andThen_ok]
      rw [shr_eq]
      simp [Nat.mod]
      rfl
    · exact absurd hk (by simp)
  · exact absurd hk (by simp)
end Go.Ev
end
section
namespace Go.Ev
noncomputable def bndK (v : V) (K : Nat → Bool) : Bool := match v with | .int _ (.ofNat n) => K n | _ => false
theorem bndK_true {v : V} {K : Nat → Bool} (h : bndK v K = true) : ∃ k n, v = .int k (.ofNat n) ∧ K n = true := by
  unfold bndK at h
  split at h
  · exact ⟨_, _, rfl, h⟩
  · exact absurd h (by simp)
theorem run_sliceBound {P : Program} {w : World} (k : IntKind) (n y : Nat) (c : BoundsCode) (h : n ≤ y) : (Instr.sliceBound (.int k (.ofNat n)) y c).run P w = .ok n w := by
  unfold Instr.sliceBound
  simp only [asIntOf, Sem.run_bind, Sem.run_pure, Result.andThen_ok]
  rw [if_pos (by simp; omega)]
  rfl
noncomputable def bnds (lo hi mx : Bool) (len : Nat) (cap : Option Nat) (vs : List V) (K : Nat → Nat → Option Nat → Bool) : Bool :=
  match lo, hi, mx with
  | false, false, false => (match vs with | [] => K 0 len cap | _ => false)
  | true, false, false => (match vs with | [a] => bndK a fun l => bif Nat.ble l len then K l len cap else false | _ => false)
  | false, true, false => (match vs with | [b] => bndK b fun h => bif Nat.ble h (cap.getD len) then K 0 h cap else false | _ => false)
  | true, true, false => (match vs with | [a, b] => bndK b fun h => bif Nat.ble h (cap.getD len) then (bndK a fun l => bif Nat.ble l h then K l h cap else false) else false | _ => false)
  | false, true, true => (match vs with | [b, c] => bndK c fun m => bif Nat.ble m (cap.getD len) then (bndK b fun h => bif Nat.ble h m then K 0 h (some m) else false) else false | _ => false)
  | true, true, true => (match vs with | [a, b, c] => bndK c fun m => bif Nat.ble m (cap.getD len) then (bndK b fun h => bif Nat.ble h m then (bndK a fun l => bif Nat.ble l h then K l h (some m) else false) else false) else false | _ => false)
  | _, _, _ => false
theorem bif_true {b c : Bool} (h : (bif b then c else false) = true) : b = true ∧ c = true := by cases b <;> simp_all
theorem ble_of {a b : Nat} (h : Nat.ble a b = true) : a ≤ b := by simpa using h
def opt (b : Bool) (l : List Value) : Option Value := if b then l.head? else none
theorem bnds_sound {P : Program} {φ : Phi} {w : World} {isSlice : Bool} {lo hi mx : Option Operand} {ρ : Operand → Value} {len cap : Nat} {oc : Option Nat} {vs : List V} {K : Nat → Nat → Option Nat → Bool}
    (hv : VRs φ vs ((lo.toArray ++ hi.toArray ++ mx.toArray).toList.map ρ)) (hlen : len ≤ cap) (hoc : ∀ c, oc = some c → cap = c) (h : bnds lo.isSome hi.isSome mx.isSome len oc vs K = true) :
    ∃ l h' m om, (Instr.sliceBounds isSlice len cap (lo.map ρ) (hi.map ρ) (mx.map ρ)).run P w = .ok (l, h', m) w ∧ l ≤ h' ∧ h' ≤ m ∧ m ≤ cap ∧ (∀ c, om = some c → m = c) ∧ K l h' om = true ∧
      (om = oc ∧ m = cap ∨ om = some m) := by
  have hg : ∀ n, n ≤ oc.getD len → n ≤ cap := fun n hn => by
    cases hc : oc with
    | none => rw [hc] at hn; exact Nat.le_trans hn hlen
    | some c => rw [hc] at hn; rw [hoc c hc]; exact hn
  cases lo with
  | none =>
    cases hi with
    | none =>
      cases mx with
      | none =>
        simp only [Option.isSome, bnds] at h
        split at h
        · exact ⟨0, len, cap, oc, rfl, Nat.zero_le _, hlen, Nat.le_refl _, hoc, h, .inl ⟨rfl, rfl⟩⟩
        · exact absurd h Bool.false_ne_true
      | some c => simp only [Option.isSome, bnds] at h; exact absurd h Bool.false_ne_true
    | some b =>
      cases mx with
      | none =>
        simp only [Option.isSome, bnds] at h
        split at h
        · obtain ⟨q, e, hq⟩ := hv.one
          simp at e
          obtain ⟨k, n, rfl, h⟩ := bndK_true h
          obtain ⟨h1, h2⟩ := bif_true h
          have hq := hq.int_inv; subst hq
          refine ⟨0, n, cap, oc, ?_, Nat.zero_le _, hg n (ble_of h1), Nat.le_refl _, hoc, h2, .inl ⟨rfl, rfl⟩⟩
          simp only [Instr.sliceBounds, Option.map_some, Option.map_none, Sem.run_bind, Sem.run_pure, Result.andThen_ok, e]
          rw [run_sliceBound k n cap _ (hg n (ble_of h1))]
          rfl
        · exact absurd h Bool.false_ne_true
      | some c =>
        simp only [Option.isSome, bnds] at h
        split at h
        · obtain ⟨q, r, e, hq, hr⟩ := hv.two
          simp at e
          obtain ⟨k, m, rfl, h⟩ := bndK_true h
          obtain ⟨h1, h2⟩ := bif_true h
          obtain ⟨k', n, rfl, h2⟩ := bndK_true h2
          obtain ⟨h3, h4⟩ := bif_true h2
          have hq := hq.int_inv; subst hq
          have hr := hr.int_inv; subst hr
          refine ⟨0, n, m, some m, ?_, Nat.zero_le _, ble_of h3, hg m (ble_of h1), (fun c hc => by simpa using hc), h4, .inr rfl⟩
          simp only [Instr.sliceBounds, Option.map_some, Option.map_none, Sem.run_bind, Sem.run_pure, Result.andThen_ok, e]
          rw [run_sliceBound k m cap _ (hg m (ble_of h1))]
          simp only [Result.andThen_ok]
          rw [run_sliceBound k' n m _ (ble_of h3)]
          rfl
        · exact absurd h Bool.false_ne_true
  | some a =>
    cases hi with
    | none =>
      cases mx with
      | none =>
        simp only [Option.isSome, bnds] at h
        split at h
        · obtain ⟨q, e, hq⟩ := hv.one
          simp at e
          obtain ⟨k, n, rfl, h⟩ := bndK_true h
          obtain ⟨h1, h2⟩ := bif_true h
          have hq := hq.int_inv; subst hq
          refine ⟨n, len, cap, oc, ?_, ble_of h1, hlen, Nat.le_refl _, hoc, h2, .inl ⟨rfl, rfl⟩⟩
          simp only [Instr.sliceBounds, Option.map_some, Option.map_none, Sem.run_bind, Sem.run_pure, Result.andThen_ok, e]
          rw [run_sliceBound k n len _ (ble_of h1)]
          rfl
        · exact absurd h Bool.false_ne_true
      | some c => simp only [Option.isSome, bnds] at h; exact absurd h Bool.false_ne_true
    | some b =>
      cases mx with
      | none =>
        simp only [Option.isSome, bnds] at h
        split at h
        · obtain ⟨q, r, e, hq, hr⟩ := hv.two
          simp at e
          obtain ⟨k, n, rfl, h⟩ := bndK_true h
          obtain ⟨h1, h2⟩ := bif_true h
          obtain ⟨k', m, rfl, h2⟩ := bndK_true h2
          obtain ⟨h3, h4⟩ := bif_true h2
          have hq := hq.int_inv; subst hq
          have hr := hr.int_inv; subst hr
          refine ⟨m, n, cap, oc, ?_, ble_of h3, hg n (ble_of h1), Nat.le_refl _, hoc, h4, .inl ⟨rfl, rfl⟩⟩
          simp only [Instr.sliceBounds, Option.map_some, Option.map_none, Sem.run_bind, Sem.run_pure, Result.andThen_ok, e]
          rw [run_sliceBound k n cap _ (hg n (ble_of h1))]
          simp only [Result.andThen_ok]
          rw [run_sliceBound k' m n _ (ble_of h3)]
          rfl
        · exact absurd h Bool.false_ne_true
      | some c =>
        simp only [Option.isSome, bnds] at h
        split at h
        · obtain ⟨q, r, s, e, hq, hr, hs⟩ := hv.three
          simp at e
          obtain ⟨k, n, rfl, h⟩ := bndK_true h
          obtain ⟨h1, h2⟩ := bif_true h
          obtain ⟨k', m, rfl, h2⟩ := bndK_true h2
          obtain ⟨h3, h4⟩ := bif_true h2
          obtain ⟨k'', l, rfl, h4⟩ := bndK_true h4
          obtain ⟨h5, h6⟩ := bif_true h4
          have hq := hq.int_inv; subst hq
          have hr := hr.int_inv; subst hr
          have hs := hs.int_inv; subst hs
          refine ⟨l, m, n, some n, ?_, ble_of h5, ble_of h3, hg n (ble_of h1), (fun c hc => by simpa using hc), h6, .inr rfl⟩
          simp only [Instr.sliceBounds, Option.map_some, Option.map_none, Sem.run_bind, Sem.run_pure, Result.andThen_ok, e]
          rw [run_sliceBound k n cap _ (hg n (ble_of h1))]
          simp only [Result.andThen_ok]
          rw [run_sliceBound k' m n _ (ble_of h3)]
          simp only [Result.andThen_ok]
          rw [run_sliceBound k'' l m _ (ble_of h5)]
          rfl
        · exact absurd h Bool.false_ne_true
noncomputable def fSlStr (lo hi : Bool) : Rd := fun vs _ K => match vs with
  | .str n c :: vs => bnds lo hi false n (some n) vs fun l h _ => strK (h - l) (Nat.mod (Nat.shiftRight c (8 * (n - h))) (Nat.pow 256 (h - l))) K
  | _ => false
theorem fSlStr_sound {P : Program} {t : TypeId} {x : Operand} {lo hi : Option Operand} (hu : P.underlying t = some .string) : RdSound P (.slice t x lo hi none) (fSlStr lo.isSome hi.isSome) := by
  intro o ho B φ h w ρ vs K hr hv hk
  unfold fSlStr at hk
  split at hk
  · rename_i n c vs'
    simp only [Op.operands] at hv
    cases hx : (#[x] ++ lo.toArray ++ hi.toArray ++ (none : Option Operand).toArray).toList.map ρ with
    | nil => simp at hx
    | cons p ps =>
      rw [hx] at hv
      cases hv with | cons hp hps =>
      have hx' : ρ x = p ∧ (lo.toArray ++ hi.toArray ++ (none : Option Operand).toArray).toList.map ρ = ps := by
        simpa using hx
      obtain ⟨s, rfl, hs, hs'⟩ := hp.str_inv
      rw [← hx'.2] at hps
      have hsz := size_of_dec hs
      obtain ⟨l, h', m, om, h1, h2, h3, h4, h5, h6, _⟩ := bnds_sound (P := P) (w := w) (isSlice := false) hps (Nat.le_refl n) (fun c hc => by simpa using hc) hk
      rw [strK_eq] at h6
      refine ⟨_, .string (s.extract l h'), ?_, .str ?_ (Nat.mod_lt _ (Nat.pow_pos (by decide))), h6⟩
      · simp only [execOp, ho, Instr.sliceAt, hx'.1, Sem.run_bind, run_underlying hu, Result.andThen_ok, Instr.slice, hsz]
        simp only [Option.map_none] at h1 ⊢
        simp [h1]
      · rw [shr_eq]
        show (s.extract l h').data.toList = dec (h' - l) (c / 256 ^ (n - h') % 256 ^ (h' - l))
        rw [dec_mod, ← dec_slice n l h' c h2 (by omega), ← hs, ByteArray.data_extract, Array.toList_extract, List.extract_eq_take_drop, List.drop_take]
  · exact absurd hk (by simp)
end Go.Ev
end
section
namespace Go.Ev
theorem hv_cons {φ : Phi} {ρ : Operand → Value} {x : Operand} {r : Array Operand} {v : V} {vs : List V} (h : VRs φ (v :: vs) ((#[x] ++ r).toList.map ρ)) : VR φ v (ρ x) ∧ VRs φ vs (r.toList.map ρ) := by
  have e : (#[x] ++ r).toList.map ρ = ρ x :: r.toList.map ρ := by simp
  rw [e] at h
  cases h with | cons a b => exact ⟨a, b⟩
theorem assoc3 (x : Operand) (lo hi mx : Option Operand) : (#[x] ++ lo.toArray ++ hi.toArray ++ mx.toArray) = #[x] ++ (lo.toArray ++ hi.toArray ++ mx.toArray) := by simp [Array.append_assoc]
def capSub (oc : Option Nat) (l : Nat) : Option Nat := match oc with | some c => some (c - l) | none => none
noncomputable def optK (oc : Option Nat) (K : Option Nat → Bool) : Bool := Option.rec (motive := fun _ => Bool) (K none) (fun c => natK c fun c => K (some c)) oc
theorem optK_eq (oc : Option Nat) (K : Option Nat → Bool) : optK oc K = K oc := by
  cases oc with
  | none => rfl
  | some c => exact natK_eq c fun c => K (some c)
noncomputable def sliceK (b off len e : Nat) (oc : Option Nat) (K : V → Bool) : Bool := natK off fun off => natK len fun len => optK oc fun oc => K (.slice b off len e oc)
theorem sliceK_eq (b off len e : Nat) (oc : Option Nat) (K : V → Bool) : sliceK b off len e oc K = K (.slice b off len e oc) := by unfold sliceK; rw [natK_eq, natK_eq, optK_eq]
noncomputable def fSl (z : Nat) (lo hi mx : Bool) : Rd := fun vs _ K => match vs with
  | .slice b off len e oc :: vs => bif Nat.beq e z then bnds lo hi mx len oc vs fun l h om => sliceK b (off + l * e) (h - l) e (capSub om l) K else false
  | .nils :: vs => bnds lo hi mx 0 (some 0) vs fun l h _ => K .nils
  | _ => false
theorem VR.nils_inv {φ : Phi} {x : Value} (h : VR φ .nils x) : x = .slice none 0 0 := by cases h; rfl
theorem VR.ptr_inv {φ : Phi} {b off : Nat} {x : Value} (h : VR φ (.ptr b off) x) : ∃ L, φ b = some L ∧ x = .pointer (some ⟨L.blk, L.base + off, none⟩) := by cases h with | ptr a => exact ⟨_, a, rfl⟩
theorem VR.slice_inv {φ : Phi} {b off len e : Nat} {oc : Option Nat} {x : Value} (h : VR φ (.slice b off len e oc) x) :
    (∃ L cap, φ b = some L ∧ L.base + off + cap * e ≤ L.cs ∧ len ≤ cap ∧ (∀ c, oc = some c → cap = c) ∧ x = .slice (some ⟨L.blk, L.base + off, none⟩) len cap) ∨
    (∃ a L, φ b = some L ∧ len = 0 ∧ (∀ c, oc = some c → c = 0) ∧ x = .slice (some a) 0 0) := by
  cases h with
  | slice a b c d => exact .inl ⟨_, _, a, b, c, d, rfl⟩
  | slice0 l a => exact .inr ⟨_, _, l, rfl, a, rfl⟩
theorem add_addr (B o n : Nat) : (⟨B, o, none⟩ : Addr).add n = ⟨B, o + n, none⟩ := by
  unfold Addr.add; split
  · subst_vars; rfl
  · rfl
theorem fSl_sound {P : Program} {t : TypeId} {x : Operand} {lo hi mx : Option Operand} {el : TypeId} {i : TypeInfo} (hu : P.underlying t = some (.slice el)) (hi' : P.info? el = some i) : RdSound P (.slice t x lo hi mx) (fSl i.size lo.isSome hi.isSome mx.isSome) := by
  intro o ho B φ h w ρ vs K hr hv hk
  simp only [Op.operands, assoc3] at hv
  unfold fSl at hk
  split at hk
  · rename_i b off len e oc vs'
    obtain ⟨hp, hps⟩ := hv_cons hv
    obtain ⟨hee, hk⟩ := bif_true hk
    have hee := Nat.eq_of_beq_eq_true hee; subst hee
    rcases hp.slice_inv with ⟨L, cap, hL, hcs, hlen, hoc, hx⟩ | ⟨a, L, hL, h0, hoc, hx⟩
    · obtain ⟨l, h', m, om, h1, h2, h3, h4, h5, h6, h7⟩ := bnds_sound (P := P) (w := w) (isSlice := true) hps hlen hoc hk
      rw [sliceK_eq] at h6
      refine ⟨_, .slice (if m = l then some ⟨L.blk, L.base + off, none⟩ else some ⟨L.blk, L.base + (off + l * i.size), none⟩) (h' - l) (m - l), ?_, ?_, h6⟩
      · simp only [execOp, ho, Instr.sliceAt, hx, Sem.run_bind, run_underlying hu, Result.andThen_ok, Instr.slice, h1, run_sizeOf hi', Sem.run_pure, Option.map_some, add_addr, Nat.add_assoc]
      · by_cases hm : m = l
        · rw [if_pos hm]
          have e1 : h' - l = 0 := by omega
          have e2 : m - l = 0 := by omega
          rw [e1, e2]
          refine .slice0 hL fun c hc => ?_
          unfold capSub at hc
          cases om with
          | none => simp at hc
          | some c' => have := h5 c' rfl; simp at hc; omega
        · rw [if_neg hm]
          refine .slice hL ?_ (by omega) fun c hc => ?_
          · have : (m - l) * i.size + l * i.size ≤ cap * i.size := by rw [← Nat.add_mul]; exact Nat.mul_le_mul_right _ (by omega)
            omega
          · unfold capSub at hc
            cases om with
            | none => simp at hc
            | some c' => have := h5 c' rfl; simp at hc; omega
    · obtain ⟨l, h', m, om, h1, h2, h3, h4, h5, h6, h7⟩ := bnds_sound (P := P) (w := w) (isSlice := true) (len := len) (cap := 0) hps (by omega) (fun c hc => (hoc c hc).symm ▸ rfl) hk
      rw [sliceK_eq] at h6
      refine ⟨_, .slice (some a) (h' - l) (m - l), ?_, ?_, h6⟩
      · subst h0
        simp only [execOp, ho, Instr.sliceAt, hx, Sem.run_bind, run_underlying hu, Result.andThen_ok, Instr.slice, h1, run_sizeOf hi', Sem.run_pure]
        rw [if_pos (by omega)]
      · have e1 : h' - l = 0 := by omega
        have e2 : m - l = 0 := by omega
        rw [e1, e2]
        refine .slice0 hL fun c hc => ?_
        unfold capSub at hc
        cases om with
        | none => simp at hc
        | some c' => have := h5 c' rfl; simp at hc; omega
  · obtain ⟨hp, hps⟩ := hv_cons hv
    have hx := hp.nils_inv
    obtain ⟨l, h', m, om, h1, h2, h3, h4, h5, h6, h7⟩ := bnds_sound (P := P) (w := w) (isSlice := true) (len := 0) (cap := 0) hps (by omega) (fun c hc => by simpa using hc) hk
    refine ⟨_, .slice none 0 0, ?_, .nils, h6⟩
    simp only [execOp, ho, Instr.sliceAt, hx, Sem.run_bind, run_underlying hu, Result.andThen_ok, Instr.slice, h1, run_sizeOf hi', Sem.run_pure]
    have e1 : h' - l = 0 := by omega
    have e2 : m - l = 0 := by omega
    rw [e1, e2]
    split <;> rfl
  · exact absurd hk (by simp)
def Dat.isMap : Dat → Bool | .cells _ => false | .bytes _ => false | _ => true
noncomputable def blkK (h : H) (b : Nat) (K : Blk → Bool) : Bool :=
  h.bl.getK b fun k => h.gr.optK k.g (K k) fun G => bif Nat.ble G.minv b then K k else false
theorem blkK_true {h : H} {b : Nat} {K : Blk → Bool} (hk : blkK h b K = true) : ∃ k, h.bl.get b = some k ∧ Live h b k ∧ K k = true := by
  obtain ⟨k, h1, h2⟩ := T.getK_true hk
  rw [T.optK_eq] at h2
  refine ⟨k, h1, ?_⟩
  cases hg : h.gr.get k.g with
  | none => rw [hg] at h2; exact ⟨fun G hG => by rw [hg] at hG; exact absurd hG (by simp), h2⟩
  | some G =>
    rw [hg] at h2
    obtain ⟨h3, h4⟩ := bif_true h2
    exact ⟨fun G' hG' => by rw [hg] at hG'; simp only [Option.some.injEq] at hG'; subst hG'; exact ble_of h3, h4⟩
noncomputable def fSlArr (n z : Nat) (lo hi mx : Bool) : Rd := fun vs h K => match vs with
  | .ptr b off :: vs => blkK h b fun k => bif !k.d.isMap && Nat.ble (off + n * z) k.n then (bnds lo hi mx n (some n) vs fun l h om => sliceK b (off + l * z) (h - l) z (capSub om l) K) else false
  | _ => false
theorem Holds.fits {φ : Phi} {w : World} {L : Loc} {n : Nat} {d : Dat} (h : Holds φ w L n d) : (d.isMap = true) ∨ L.base + n ≤ L.cs := by
  cases d with
  | cells t => obtain ⟨c, elem, fr, h1, h2, h3, h4, h5⟩ := h; exact .inr h4
  | bytes cd => obtain ⟨c, elem, fr, h1, h2, h3, h4, h5⟩ := h; exact .inr h4
  | map es clock => exact .inl rfl
  | mit b since seen last => exact .inl rfl
  | lrec Lp loc ps asg body st pend => exact .inl rfl
theorem fSlArr_sound {P : Program} {t : TypeId} {x : Operand} {lo hi mx : Option Operand} {n : Nat} {el : TypeId} {i : TypeInfo} (hu : P.underlying t = some (.array n el)) (hi' : P.info? el = some i) :
    RdSound P (.slice t x lo hi mx) (fSlArr n i.size lo.isSome hi.isSome mx.isSome) := by
  intro o ho B φ h w ρ vs K hr hv hk
  simp only [Op.operands, assoc3] at hv
  unfold fSlArr at hk
  split at hk
  · rename_i b off vs'
    obtain ⟨hp, hps⟩ := hv_cons hv
    obtain ⟨k, hb, hl, hk⟩ := blkK_true hk
    obtain ⟨hfit, hk⟩ := bif_true hk
    have hfit := Bool.and_eq_true_iff.1 hfit
    have hfit2 := ble_of hfit.2
    obtain ⟨L, hL, hx⟩ := hp.ptr_inv
    obtain ⟨l, h', m, om, h1, h2, h3, h4, h5, h6, h7⟩ := bnds_sound (P := P) (w := w) (isSlice := false) hps (Nat.le_refl n) (fun c hc => by simpa using hc) hk
    rw [sliceK_eq] at h6
    refine ⟨_, .slice (some (if m = l then ⟨L.blk, L.base + off, none⟩ else ⟨L.blk, L.base + (off + l * i.size), none⟩)) (h' - l) (m - l), ?_, ?_, h6⟩
    · simp only [execOp, ho, Instr.sliceAt, hx, Sem.run_bind, run_underlying hu, Result.andThen_ok, Instr.sureAddr, Sem.run_pure, h1, run_sizeOf hi', add_addr, Nat.add_assoc]
    · by_cases hm : m = l
      · rw [if_pos hm]
        have e1 : h' - l = 0 := by omega
        have e2 : m - l = 0 := by omega
        rw [e1, e2]
        refine .slice0 hL fun c hc => ?_
        unfold capSub at hc
        cases om with
        | none => simp at hc
        | some c' => have := h5 c' rfl; simp at hc; omega
      · rw [if_neg hm]
        refine .slice hL ?_ (by omega) fun c hc => ?_
        · have : (m - l) * i.size + l * i.size ≤ n * i.size := by rw [← Nat.add_mul]; exact Nat.mul_le_mul_right _ (by omega)
          rcases (hr.hold b L k hL hb hl).fits with hd | hfit'
          · rw [hd] at hfit; exact absurd hfit.1 (by simp)
          · omega
        · unfold capSub at hc
          cases om with
          | none => simp at hc
          | some c' => have := h5 c' rfl; simp at hc; omega
  · exact absurd hk (by simp)
noncomputable def fFAddr (d : Nat) : Rd := fun vs _ K => match vs with
  | [.ptr b off] => natK (off + d) fun o => K (.ptr b o)
  | _ => false
theorem fFAddr_sound {P : Program} {t : TypeId} {x : Operand} {fi : Nat} {fs : Array Field} {f : Field} {i : TypeInfo} (hu : P.underlying t = some (.struct fs)) (hf : fs[fi]? = some f)
    (hi : P.info? f.type = some i) (hz : i.size ≠ 0) : RdSound P (.fieldAddr t x fi) (fFAddr f.offset) := by
  intro o ho B φ h w ρ vs K hr hv hk
  unfold fFAddr at hk
  split at hk
  · rename_i b off
    obtain ⟨p, e, hp⟩ := hv.one
    simp only [Op.operands, List.map_cons, List.map_nil, List.cons.injEq, and_true] at e
    obtain ⟨L, hL, rfl⟩ := hp.ptr_inv
    rw [natK_eq] at hk
    refine ⟨_, .pointer (some ⟨L.blk, L.base + (off + f.offset), none⟩), ?_, .ptr hL, hk⟩
    simp only [execOp, ho, e, Instr.fieldAt, Sem.run_bind, run_underlying hu, Result.andThen_ok, hf, Instr.sureAddr, Sem.run_pure, fieldPlace, run_sizeOf hi]
    rw [if_neg hz]
    simp only [Sem.run_pure, Result.andThen_ok, add_addr, Nat.add_assoc]
  · exact absurd hk (by simp)
noncomputable def fIAddr (z : Nat) : Rd := fun vs _ K => match vs with
  | [.slice b off len e _, .int _ (.ofNat j)] => bif Nat.blt j len && Nat.beq e z then (natK (off + j * z) fun o => K (.ptr b o)) else false
  | _ => false
theorem fIAddr_sound {P : Program} {t : TypeId} {x ix : Operand} {el : TypeId} {i : TypeInfo} (hu : P.underlying t = some (.slice el)) (hi : P.info? el = some i) : RdSound P (.indexAddr t x ix) (fIAddr i.size) := by
  intro o ho B φ h w ρ vs K hr hv hk
  unfold fIAddr at hk
  split at hk
  · rename_i b off len e oc k j
    obtain ⟨p, q, e, hp, hq⟩ := hv.two
    simp only [Op.operands, List.map_cons, List.map_nil, List.cons.injEq, and_true] at e
    obtain ⟨h1, h2⟩ := bif_true hk
    obtain ⟨h1, h3⟩ := Bool.and_eq_true_iff.1 h1
    have h1 := blt_iff.1 h1
    have hq := hq.int_inv; subst hq
    rw [natK_eq] at h2
    rcases hp.slice_inv with ⟨L, cap, hL, hcs, hlen, hoc, rfl⟩ | ⟨a, L, hL, h0, hoc, rfl⟩
    · refine ⟨_, .pointer (some ⟨L.blk, L.base + (off + j * i.size), none⟩), ?_, .ptr hL, h2⟩
      simp only [execOp, ho, e.1, e.2, Instr.indexAt, asIntOf, Sem.run_bind, run_underlying hu, Result.andThen_ok, Sem.run_pure]
      rw [if_pos ⟨by simp, by simpa using h1⟩]
      simp only [run_sizeOf hi, Sem.run_bind, Result.andThen_ok, Sem.run_pure, add_addr, Nat.add_assoc]
      rfl
    · omega
  · exact absurd hk (by simp)
noncomputable def fIAddrA (n z : Nat) : Rd := fun vs _ K => match vs with
  | [.ptr b off, .int _ (.ofNat j)] => bif Nat.blt j n then (natK (off + j * z) fun o => K (.ptr b o)) else false
  | _ => false
theorem fIAddrA_sound {P : Program} {t : TypeId} {x ix : Operand} {n : Nat} {el : TypeId} {i : TypeInfo} (hu : P.underlying t = some (.array n el)) (hi : P.info? el = some i) : RdSound P (.indexAddr t x ix) (fIAddrA n i.size) := by
  intro o ho B φ h w ρ vs K hr hv hk
  unfold fIAddrA at hk
  split at hk
  · rename_i b off k j
    obtain ⟨p, q, e, hp, hq⟩ := hv.two
    simp only [Op.operands, List.map_cons, List.map_nil, List.cons.injEq, and_true] at e
    obtain ⟨h1, h2⟩ := bif_true hk
    have h1 := blt_iff.1 h1
    have hq := hq.int_inv; subst hq
    rw [natK_eq] at h2
    obtain ⟨L, hL, rfl⟩ := hp.ptr_inv
    refine ⟨_, .pointer (some ⟨L.blk, L.base + (off + j * i.size), none⟩), ?_, .ptr hL, h2⟩
    simp only [execOp, ho, e.1, e.2, Instr.indexAt, asIntOf, Sem.run_bind, run_underlying hu, Result.andThen_ok, Sem.run_pure, Instr.sureAddr]
    rw [if_pos ⟨by simp, by simpa using h1⟩]
    simp only [run_sizeOf hi, Sem.run_bind, Result.andThen_ok, Sem.run_pure, add_addr, Nat.add_assoc]
    rfl
  · exact absurd hk (by simp)
noncomputable def fNilChk : Rd := fun vs _ K => match vs with
  | [.ptr b o] => K (.ptr b o)
  | [.func f a c] => K (.func f a c)
  | [.iface t v] => K (.iface t v)
  | _ => false
theorem fNilChk_sound {P : Program} {x : Operand} : RdSound P (.nilCheck x) fNilChk := by
  intro o ho B φ h w ρ vs K hr hv hk
  unfold fNilChk at hk
  split at hk
  · obtain ⟨p, e, hp⟩ := hv.one
    simp only [Op.operands, List.map_cons, List.map_nil, List.cons.injEq, and_true] at e
    refine ⟨_, p, ?_, hp, hk⟩
    simp only [execOp, ho, e]
    cases hp; rfl
  · obtain ⟨p, e, hp⟩ := hv.one
    simp only [Op.operands, List.map_cons, List.map_nil, List.cons.injEq, and_true] at e
    refine ⟨_, p, ?_, hp, hk⟩
    simp only [execOp, ho, e]
    cases hp; rfl
  · obtain ⟨p, e, hp⟩ := hv.one
    simp only [Op.operands, List.map_cons, List.map_nil, List.cons.injEq, and_true] at e
    refine ⟨_, p, ?_, hp, hk⟩
    simp only [execOp, ho, e]
    cases hp; rfl
  · exact absurd hk (by simp)
end Go.Ev
end
section
namespace Go.Ev
theorem call_operands (c : Call) (b : Builtin) (hc : c.callee = .builtin b) (ρ : Operand → Value) : ((Op.call c).operands.toList.map ρ) = (c.args.map ρ).toList := by
  simp [Op.operands, Call.operands, hc]
theorem run_builtin {P : Program} {w : World} {ρ : Operand → Value} {o : Oper} {c : Call} {b : Builtin} (ho : o.op = .call c) (hc : c.callee = .builtin b) :
    (execOp ρ o).run P w = (builtin b c.argTypes o.type (c.args.map fun | .const _ => true | _ => false) (c.args.map ρ)).run P w := by
  simp only [execOp, ho, resolve, hc, Sem.run_bind, Sem.run_pure, Result.andThen_ok, invoke]
  rfl
theorem args1 {φ : Phi} {v : V} {c : Call} {b : Builtin} {ρ : Operand → Value} (hc : c.callee = .builtin b) (h : VRs φ [v] ((Op.call c).operands.toList.map ρ)) : ∃ x, c.args.map ρ = #[x] ∧ VR φ v x := by
  rw [call_operands c b hc] at h
  obtain ⟨x, e, hx⟩ := h.one
  exact ⟨x, by rw [← Array.toList_inj]; exact e, hx⟩
theorem args2 {φ : Phi} {v u : V} {c : Call} {b : Builtin} {ρ : Operand → Value} (hc : c.callee = .builtin b) (h : VRs φ [v, u] ((Op.call c).operands.toList.map ρ)) : ∃ x y, c.args.map ρ = #[x, y] ∧ VR φ v x ∧ VR φ u y := by
  rw [call_operands c b hc] at h
  obtain ⟨x, y, e, hx, hy⟩ := h.two
  exact ⟨x, y, by rw [← Array.toList_inj]; exact e, hx, hy⟩
theorem args3 {φ : Phi} {v u t : V} {c : Call} {b : Builtin} {ρ : Operand → Value} (hc : c.callee = .builtin b) (h : VRs φ [v, u, t] ((Op.call c).operands.toList.map ρ)) : ∃ x y z, c.args.map ρ = #[x, y, z] ∧ VR φ v x ∧ VR φ u y ∧ VR φ t z := by
  rw [call_operands c b hc] at h
  obtain ⟨x, y, z, e, hx, hy, hz⟩ := h.three
  exact ⟨x, y, z, by rw [← Array.toList_inj]; exact e, hx, hy, hz⟩
noncomputable def fLenStr : Rd := fun vs _ K => match vs with | [.str n _] => K (.int .i64 (.ofNat n)) | _ => false
theorem fLenStr_sound {P : Program} {c : Call} {t : TypeId} (hc : c.callee = .builtin .len) (h0 : c.argTypes[0]? = some t) (hu : P.underlying t = some .string) : RdSound P (.call c) fLenStr := by
  intro o ho B φ h w ρ vs K hr hv hk
  unfold fLenStr at hk
  split at hk
  · obtain ⟨x, e, hx⟩ := args1 hc hv
    obtain ⟨s, rfl, hs, _⟩ := hx.str_inv
    refine ⟨_, _, ?_, .int _ _, hk⟩
    rw [run_builtin ho hc, e]
    simp only [builtin, Builtin.len_, h0, Sem.run_bind, Sem.run_pure, Result.andThen_ok, run_underlying hu, List.getElem?_toArray, List.getElem?_cons_zero, size_of_dec hs]
    rfl
  · exact absurd hk (by simp)
noncomputable def fLenSl : Rd := fun vs _ K => match vs with | [.slice _ _ n _ _] => K (.int .i64 (.ofNat n)) | [.nils] => K (.int .i64 (.ofNat 0)) | _ => false
theorem fLenSl_sound {P : Program} {c : Call} {t el : TypeId} (hc : c.callee = .builtin .len) (h0 : c.argTypes[0]? = some t) (hu : P.underlying t = some (.slice el)) : RdSound P (.call c) fLenSl := by
  intro o ho B φ h w ρ vs K hr hv hk
  unfold fLenSl at hk
  split at hk
  · obtain ⟨x, e, hx⟩ := args1 hc hv
    rcases hx.slice_inv with ⟨L, cap, hL, hcs, hlen, hoc, rfl⟩ | ⟨a, L, hL, h0', hoc, rfl⟩
    · refine ⟨_, _, ?_, .int _ _, hk⟩
      rw [run_builtin ho hc, e]
      simp only [builtin, Builtin.len_, h0, Sem.run_bind, Sem.run_pure, Result.andThen_ok, run_underlying hu, List.getElem?_toArray, List.getElem?_cons_zero]
      rfl
    · refine ⟨_, _, ?_, .int _ _, hk⟩
      rw [run_builtin ho hc, e, h0']
      simp only [builtin, Builtin.len_, h0, Sem.run_bind, Sem.run_pure, Result.andThen_ok, run_underlying hu, List.getElem?_toArray, List.getElem?_cons_zero]
      rfl
  · obtain ⟨x, e, hx⟩ := args1 hc hv
    have := hx.nils_inv; subst this
    refine ⟨_, _, ?_, .int _ _, hk⟩
    rw [run_builtin ho hc, e]
    simp only [builtin, Builtin.len_, h0, Sem.run_bind, Sem.run_pure, Result.andThen_ok, run_underlying hu, List.getElem?_toArray, List.getElem?_cons_zero]
    rfl
  · exact absurd hk (by simp)
noncomputable def fLenArr (n : Nat) : Rd := fun vs _ K => match vs with | [_] => K (.int .i64 (.ofNat n)) | _ => false
theorem fLenArr_sound {P : Program} {c : Call} {t el : TypeId} {n : Nat} (hc : c.callee = .builtin .len) (h0 : c.argTypes[0]? = some t) (hu : P.underlying t = some (.array n el)) : RdSound P (.call c) (fLenArr n) := by
  intro o ho B φ h w ρ vs K hr hv hk
  unfold fLenArr at hk
  split at hk
  · obtain ⟨x, e, hx⟩ := args1 hc hv
    refine ⟨_, _, ?_, .int _ _, hk⟩
    rw [run_builtin ho hc, e]
    simp only [builtin, Builtin.len_, h0, Sem.run_bind, Sem.run_pure, Result.andThen_ok, run_underlying hu, List.getElem?_toArray, List.getElem?_cons_zero]
    rfl
  · exact absurd hk (by simp)
noncomputable def lenK {α : Type} (l : List α) : Nat → (Nat → Bool) → Bool :=
  List.rec (motive := fun _ => Nat → (Nat → Bool) → Bool) (fun n K => natK n K) (fun _ _ ih n K => natK (n + 1) fun n => ih n K) l
theorem lenK_eq {α : Type} : ∀ (l : List α) (n : Nat) (K : Nat → Bool), lenK l n K = K (n + l.length)
  | [], n, K => natK_eq n K
  | a :: l, n, K => by
    have e : lenK (a :: l) n K = natK (n + 1) fun n => lenK l n K := rfl
    rw [e, natK_eq, lenK_eq l]
    simp [Nat.add_assoc, Nat.add_comm 1]
noncomputable def fLenMap : Rd := fun vs h K => match vs with
  | [.map b] => blkK h b fun k => (match k.d with | .map es _ => lenK es 0 fun n => K (.int .i64 (.ofNat n)) | _ => false)
  | [.nilm] => K (.int .i64 (.ofNat 0))
  | _ => false
theorem VR.map_inv {φ : Phi} {b : Nat} {x : Value} (h : VR φ (.map b) x) : ∃ L, φ b = some L ∧ x = .map (some L.blk) := by cases h with | map a => exact ⟨_, a, rfl⟩
theorem VR.nilm_inv {φ : Phi} {x : Value} (h : VR φ .nilm x) : x = .map none := by cases h; rfl
theorem Ents.length {φ : Phi} : ∀ {l : List Ent} {xs : List MapEntry}, Ents φ l xs → l.length = xs.length
  | _, _, .nil => rfl
  | _, _, .cons _ _ _ t => by simp [Ents.length t]
theorem run_getObj {P : Program} {w : World} {r : Nat} {xs : Array MapEntry} {clock : Nat} (h : w.heap[r]? = some (.map xs clock)) : (getObj r).run P w = .ok (.map xs clock) w := by
  unfold getObj Sem.run; rw [h]; rfl
theorem fLenMap_sound {P : Program} {c : Call} {t kt et : TypeId} (hc : c.callee = .builtin .len) (h0 : c.argTypes[0]? = some t) (hu : P.underlying t = some (.map kt et)) : RdSound P (.call c) fLenMap := by
  intro o ho B φ h w ρ vs K hr hv hk
  unfold fLenMap at hk
  split at hk
  · rename_i b
    obtain ⟨x, e, hx⟩ := args1 hc hv
    obtain ⟨k, hb, hl, hk⟩ := blkK_true hk
    obtain ⟨L, hL, rfl⟩ := hx.map_inv
    have hh := hr.hold b L k hL hb hl
    split at hk
    · rename_i es clock hd
      rw [hd] at hh
      obtain ⟨xs, h1, h2⟩ := hh
      rw [lenK_eq, Nat.zero_add] at hk
      refine ⟨_, _, ?_, .int _ _, hk⟩
      rw [run_builtin ho hc, e]
      simp only [builtin, Builtin.len_, h0, Sem.run_bind, Sem.run_pure, Result.andThen_ok, run_underlying hu, List.getElem?_toArray, List.getElem?_cons_zero, run_getObj h1]
      rw [h2.length]
      simp [goInt]
    · exact absurd hk (by simp)
  · obtain ⟨x, e, hx⟩ := args1 hc hv
    have := hx.nilm_inv; subst this
    refine ⟨_, _, ?_, .int _ _, hk⟩
    rw [run_builtin ho hc, e]
    simp only [builtin, Builtin.len_, h0, Sem.run_bind, Sem.run_pure, Result.andThen_ok, run_underlying hu, List.getElem?_toArray, List.getElem?_cons_zero]
    rfl
  · exact absurd hk (by simp)
noncomputable def fMin (mx : Bool) : Rd := fun vs _ K => match vs with
  | [.int k a, .int _ b] => Bool.rec (motive := fun _ => Bool) (Bool.rec (motive := fun _ => Bool) (K (.int k a)) (K (.int k b)) (iLt b a)) (Bool.rec (motive := fun _ => Bool) (K (.int k a)) (K (.int k b)) (iLt a b)) mx
  | _ => false
theorem fMin_sound {P : Program} {c : Call} (hc : c.callee = .builtin .min) : RdSound P (.call c) (fMin false) := by
  intro o ho B φ h w ρ vs K hr hv hk
  unfold fMin at hk
  split at hk
  · rename_i k a k' b
    obtain ⟨x, y, e, hx, hy⟩ := args2 hc hv
    have hx := hx.int_inv; subst hx
    have hy := hy.int_inv; subst hy
    refine ⟨.int k (if b < a then b else a), _, ?_, .int _ _, ?_⟩
    · rw [run_builtin ho hc, e]
      simp only [builtin, Builtin.min_, Sem.run_bind, Sem.run_pure, Result.andThen_ok, List.foldlM_cons, List.foldlM_nil, Builtin.min2]
    · simp only [iLt_eq] at hk
      by_cases hab : b < a
      · rw [if_pos hab]; simpa [hab] using hk
      · rw [if_neg hab]; simpa [hab] using hk
  · exact absurd hk (by simp)
theorem fMax_sound {P : Program} {c : Call} (hc : c.callee = .builtin .max) : RdSound P (.call c) (fMin true) := by
  intro o ho B φ h w ρ vs K hr hv hk
  unfold fMin at hk
  split at hk
  · rename_i k a k' b
    obtain ⟨x, y, e, hx, hy⟩ := args2 hc hv
    have hx := hx.int_inv; subst hx
    have hy := hy.int_inv; subst hy
    simp only [iLt_eq] at hk
    by_cases hab : a < b
    · refine ⟨.int k b, .int k b, ?_, .int _ _, by simpa [hab] using hk⟩
      rw [run_builtin ho hc, e]
      simp [builtin, Builtin.max_, Builtin.max2, hab]
    · refine ⟨.int k a, .int k a, ?_, .int _ _, by simpa [hab] using hk⟩
      rw [run_builtin ho hc, e]
      simp [builtin, Builtin.max_, Builtin.max2, hab]
  · exact absurd hk (by simp)
noncomputable def fMkF (f : FuncId) (n : Nat) : Rd := fun vs _ K => takeK n vs fun a => dropK n vs fun c => K (.func f a c)
theorem fMkF_sound {P : Program} {f : FuncId} {first cap : Array Operand} : RdSound P (.makeFunc (.func f) first cap) (fMkF f first.size) := by
  intro o ho B φ h w ρ vs K hr hv hk
  unfold fMkF at hk
  obtain ⟨h1, hk⟩ := takeK_true hk
  obtain ⟨h2, hk⟩ := dropK_true hk
  refine ⟨_, .func (.func f) (first.map ρ) (cap.map ρ), ?_, .func ?_ ?_, hk⟩
  · simp only [execOp, ho, Instr.makeFunc]; rfl
  · have := hv.take first.size
    simp only [Op.operands] at this
    simpa using this
  · have := hv.drop first.size
    simp only [Op.operands] at this
    simpa using this
noncomputable def fMkI (t : TypeId) : Rd := fun vs _ K => match vs with | [v] => K (.iface t v) | _ => false
theorem fMkI_sound {P : Program} {t : TypeId} {x : Operand} {d : TypeDesc} (hu : P.underlying t = some d) (hd : ∀ m, d ≠ .interface m) : RdSound P (.makeInterface t x) (fMkI t) := by
  intro o ho B φ h w ρ vs K hr hv hk
  unfold fMkI at hk
  split at hk
  · obtain ⟨p, e, hp⟩ := hv.one
    simp only [Op.operands, List.map_cons, List.map_nil, List.cons.injEq, and_true] at e
    refine ⟨_, _, ?_, .iface hp, hk⟩
    simp only [execOp, ho, e, Instr.makeInterface, Sem.run_bind, run_underlying hu, Result.andThen_ok]
    cases d <;> first | exact absurd rfl (hd _) | rfl
  · exact absurd hk (by simp)
end Go.Ev
end
section
namespace Go.Ev
def cellsV : V → List V | .agg l => l | v => [v]
theorem VR.cells {φ : Phi} {v : V} {x : Value} (h : VR φ v x) : VRs φ (cellsV v) x.cells.toList := by
  have h' := h
  cases h <;> first | exact VRs.cons h' .nil | assumption
theorem splice_fold : ∀ (c : List Value) (off k : Nat) (cells : Array Value), off + k + c.length ≤ cells.size →
    ((c.zipIdx k).foldl (fun (cs : Array Value) (p : Value × Nat) => cs.setIfInBounds (off + p.2) p.1) cells).toList = cells.toList.take (off + k) ++ c ++ cells.toList.drop (off + k + c.length)
  | [], off, k, cells, h => by simp
  | a :: c, off, k, cells, h => by
    simp only [List.length_cons] at h
    rw [List.zipIdx_cons, List.foldl_cons, splice_fold c off (k + 1) _ (by simp; omega)]
    simp only [Array.toList_setIfInBounds, List.length_cons]
    have h1 : off + k < cells.toList.length := by simp; omega
    have e1 : (cells.toList.set (off + k) a).take (off + (k + 1)) = cells.toList.take (off + k) ++ [a] := by
      rw [show off + (k + 1) = off + k + 1 by omega, List.take_add_one, List.take_set_of_le (Nat.le_refl _), List.getElem?_set_self h1]
      rfl
    have e2 : (cells.toList.set (off + k) a).drop (off + (k + 1) + c.length) = cells.toList.drop (off + k + (c.length + 1)) := by
      rw [List.drop_set_of_lt (by omega)]
      congr 1; omega
    rw [e1, e2]
    simp
noncomputable def spliceK (off : Nat) : List V → List V → (List V → Bool) → Bool :=
  Nat.rec (motive := fun _ => List V → List V → (List V → Bool) → Bool)
    (fun l c => List.rec (motive := fun _ => List V → (List V → Bool) → Bool) (fun l K => K l)
      (fun a _ ih l K => List.rec (motive := fun _ => Bool) false (fun _ r _ => ih r fun s => K (a :: s)) l) c l)
    (fun _ ih l c K => List.rec (motive := fun _ => Bool) false (fun b r _ => ih r c fun s => K (b :: s)) l) off
theorem spliceK_true : ∀ {off : Nat} {l c : List V} {K : List V → Bool}, spliceK off l c K = true → off + c.length ≤ l.length ∧ K (l.take off ++ c ++ l.drop (off + c.length)) = true
  | 0, l, [], K, h => ⟨by simp, by simpa using (show K l = true from h)⟩
  | 0, [], a :: c, K, h => absurd h (by simp [spliceK])
  | 0, b :: l, a :: c, K, h => by
    have := spliceK_true (off := 0) (l := l) (c := c) (K := fun s => K (a :: s)) h
    simp at this ⊢
    exact ⟨by omega, this.2⟩
  | off + 1, [], c, K, h => absurd h (by simp [spliceK])
  | off + 1, b :: l, c, K, h => by
    have := spliceK_true (off := off) (l := l) (c := c) (K := fun s => K (b :: s)) h
    simp only [List.length_cons, List.take_succ_cons, List.cons_append]
    refine ⟨by omega, ?_⟩
    rw [show off + 1 + c.length = (off + c.length) + 1 by omega, List.drop_succ_cons]
    exact this.2
noncomputable def fillK (ps : List (Nat × Nat)) : List V → List V → (List V → Bool) → Bool :=
  List.rec (motive := fun _ => List V → List V → (List V → Bool) → Bool)
    (fun vs l K => List.rec (motive := fun _ => Bool) (K l) (fun _ _ _ => false) vs)
    (fun p _ ih vs l K => List.rec (motive := fun _ => Bool) false
      (fun v r _ => lenK (cellsV v) 0 fun n => bif Nat.beq n p.2 then (spliceK p.1 l (cellsV v) fun s => ih r s K) else false) vs) ps
theorem fillK_sound {φ : Phi} {place : Nat → Option (Nat × Nat)} : ∀ {ps : List (Nat × Nat)} {is : List Nat} {vs l : List V} {xs : List Value} {c : Array Value} {K : List V → Bool},
    is.map place = ps.map some → VRs φ vs xs → VRs φ l c.toList → fillK ps vs l K = true →
    ∃ c' l', Instr.fill place c (is.zip xs) = some c' ∧ VRs φ l' c'.toList ∧ K l' = true
  | [], is, vs, l, xs, c, K, hp, hv, hl, h => by
    have : is = [] := by simpa using hp
    subst this
    cases hv with
    | nil => exact ⟨c, l, rfl, hl, h⟩
    | cons a b => exact absurd h (by simp [fillK])
  | (off, size) :: ps, is, vs, l, xs, c, K, hp, hv, hl, h => by
    cases is with
    | nil => simp at hp
    | cons i is =>
      simp only [List.map_cons, List.cons.injEq] at hp
      cases hv with
      | nil => exact absurd h (by simp [fillK])
      | @cons v x vs xs hx hxs =>
        have h' : (lenK (cellsV v) 0 fun n => bif Nat.beq n size then (spliceK off l (cellsV v) fun s => fillK ps vs s K) else false) = true := h
        rw [lenK_eq, Nat.zero_add] at h'
        obtain ⟨h1, h2⟩ := bif_true h'
        have h1 := Nat.eq_of_beq_eq_true h1
        obtain ⟨h3, h4⟩ := spliceK_true h2
        have hc := hx.cells
        have hlen := hc.length
        have hll := hl.length
        have hsz : x.cells.size = size := by rw [← h1, hlen]; simp
        have hcs : off + x.cells.size ≤ c.size := by
          have : c.toList.length = c.size := by simp
          omega
        have hspl := splice_fold x.cells.toList off 0 c (by simpa using hcs)
        have hfold : (x.cells.zipIdx.foldl (fun cs (p : Value × Nat) => cs.setIfInBounds (off + p.2) p.1) c).toList = c.toList.take off ++ x.cells.toList ++ c.toList.drop (off + x.cells.toList.length) := by
          rw [← Array.foldl_toList, Array.toList_zipIdx]
          simpa using hspl
        obtain ⟨c', l', h5, h6, h7⟩ := fillK_sound (ps := ps) (is := is) (vs := vs) (xs := xs) (l := l.take off ++ cellsV v ++ l.drop (off + (cellsV v).length))
          (c := x.cells.zipIdx.foldl (fun cs (p : Value × Nat) => cs.setIfInBounds (off + p.2) p.1) c) hp.2 hxs
          (by rw [hfold, hlen]; exact ((hl.take off).append hc).append (hl.drop _)) h4
        refine ⟨c', l', ?_, h6, h7⟩
        simp only [List.zip_cons_cons, Instr.fill, hp.1]
        rw [if_neg (by simp [hsz]; omega)]
        exact h5
theorem spliceK_eq : ∀ {off : Nat} {l c : List V}, off + c.length ≤ l.length → ∀ K, spliceK off l c K = K (l.take off ++ c ++ l.drop (off + c.length))
  | 0, l, [], _, K => by
    have e : spliceK 0 l [] K = K l := rfl
    rw [e]; simp
  | 0, [], a :: c, h, K => by simp at h
  | 0, b :: l, a :: c, h, K => by
    have := spliceK_eq (off := 0) (l := l) (c := c) (by simp at h ⊢; omega) (fun s => K (a :: s))
    have e : spliceK 0 (b :: l) (a :: c) K = spliceK 0 l c fun s => K (a :: s) := rfl
    rw [e, this]
    simp
  | off + 1, [], c, h, K => by simp at h
  | off + 1, b :: l, c, h, K => by
    have := spliceK_eq (off := off) (l := l) (c := c) (by simp at h; omega) (fun s => K (b :: s))
    have e : spliceK (off + 1) (b :: l) c K = spliceK off l c fun s => K (b :: s) := rfl
    rw [e, this]
    rw [show off + 1 + c.length = (off + c.length) + 1 by omega, List.drop_succ_cons]
    simp
theorem fillK_det : ∀ {ps : List (Nat × Nat)} {vs l : List V} {K : List V → Bool}, fillK ps vs l K = true → ∃ l', K l' = true ∧ ∀ K', fillK ps vs l K' = K' l'
  | [], [], l, K, h => ⟨l, h, fun _ => rfl⟩
  | [], v :: vs, l, K, h => absurd h (by simp [fillK])
  | p :: ps, [], l, K, h => absurd h (by simp [fillK])
  | (off, size) :: ps, v :: vs, l, K, h => by
    have e : ∀ K, fillK ((off, size) :: ps) (v :: vs) l K = (lenK (cellsV v) 0 fun n => bif Nat.beq n size then (spliceK off l (cellsV v) fun s => fillK ps vs s K) else false) := fun K => rfl
    rw [e, lenK_eq, Nat.zero_add] at h
    obtain ⟨h1, h2⟩ := bif_true h
    obtain ⟨h3, h4⟩ := spliceK_true h2
    obtain ⟨l', h5, h6⟩ := fillK_det h4
    refine ⟨l', h5, fun K' => ?_⟩
    rw [e, lenK_eq, Nat.zero_add, h1, cond_true, spliceK_eq h3, h6]
noncomputable def fBuild (zero : List V) (ps : List (Nat × Nat)) : Rd := fun vs _ K => fillK ps vs zero fun l => K (.agg l)
theorem parts_zip (parts : Array (Nat × Operand)) (ρ : Operand → Value) : (parts.map fun (i, x) => (i, ρ x)).toList = (parts.toList.map (·.1)).zip (parts.toList.map fun p => ρ p.2) := by
  rw [Array.toList_map]
  induction parts.toList with
  | nil => rfl
  | cons a l ih => simp [ih]
theorem build_operands (parts : Array (Nat × Operand)) (ρ : Operand → Value) : ((parts.toList.map (·.2)).toArray).toList.map ρ = parts.toList.map fun p => ρ p.2 := by simp [List.map_map, Function.comp_def]
theorem run_mapM_places {P : Program} {w : World} (g : TypeId → Option TypeInfo) (hg : ∀ t i, g t = some i → P.info? t = some i) : ∀ (fs : List Field) (out : List (Nat × Nat)),
    fs.mapM (fun f => (g f.type).map fun i => (f.offset, i.size)) = some out → (fs.mapM (m := Sem) fun f => do pure (f.offset, ← sizeOf f.type)).run P w = .ok out w := by
  intro fs
  induction fs with
  | nil => intro out h; simp at h; subst h; rfl
  | cons f fs ih =>
    intro out h
    rw [List.mapM_cons] at h ⊢
    cases hi : g f.type with
    | none => simp [hi] at h
    | some i =>
      cases hr : fs.mapM (fun f => (g f.type).map fun i => (f.offset, i.size)) with
      | none => simp [hi, hr] at h
      | some r =>
        simp [hi, hr] at h
        subst h
        simp only [Sem.run_bind, run_sizeOf (hg _ _ hi), Result.andThen_ok, Sem.run_pure, ih r hr]
theorem fBuildS_sound {P : Program} {t : TypeId} {parts : Array (Nat × Operand)} {fs : Array Field} {i : TypeInfo} {z : Value} {zero : List V} {places : List (Nat × Nat)} {ps : List (Nat × Nat)}
    (hu : P.underlying t = some (.struct fs)) (hi : P.info? t = some i) (hz : i.zero = some z) (hzv : ∀ φ, VRs φ zero z.cells.toList)
    (hpl : fs.toList.mapM (fun f => (P.info? f.type).map fun i => (f.offset, i.size)) = some places) (hps : (parts.toList.map (·.1)).map (places[·]?) = ps.map some) : RdSound P (.build t parts) (fBuild zero ps) := by
  intro o ho B φ h w ρ vs K hr hv hk
  unfold fBuild at hk
  simp only [Op.operands] at hv
  rw [build_operands] at hv
  have hm := run_mapM_places (P := P) (w := w) P.info? (fun _ _ h => h) fs.toList places hpl
  obtain ⟨c', l', h1, h2, h3⟩ := fillK_sound (place := fun j => places[j]?) hps hv (hzv φ) hk
  refine ⟨_, .agg c', ?_, .agg h2, h3⟩
  simp only [execOp, ho, Instr.build, Sem.run_bind, run_zeroValue hi hz, Result.andThen_ok, run_underlying hu]
  rw [Array.mapM_eq_mapM_toList]
  simp only [Sem.run_map, Sem.run_bind, hm, Result.andThen_ok]
  have : (fun x : Nat => places.toArray[x]?) = fun j : Nat => places[j]? := by funext j; simp
  rw [this, parts_zip, h1]
  rfl
theorem fBuildA_sound {P : Program} {t el : TypeId} {n : Nat} {parts : Array (Nat × Operand)} {i ie : TypeInfo} {z : Value} {zero : List V} {ps : List (Nat × Nat)}
    (hu : P.underlying t = some (.array n el)) (hi : P.info? t = some i) (hz : i.zero = some z) (hzv : ∀ φ, VRs φ zero z.cells.toList) (hie : P.info? el = some ie)
    (hps : (parts.toList.map (·.1)).map (fun j => some (j * ie.size, ie.size)) = ps.map some) : RdSound P (.build t parts) (fBuild zero ps) := by
  intro o ho B φ h w ρ vs K hr hv hk
  unfold fBuild at hk
  simp only [Op.operands] at hv
  rw [build_operands] at hv
  obtain ⟨c', l', h1, h2, h3⟩ := fillK_sound (place := fun j => some (j * ie.size, ie.size)) hps hv (hzv φ) hk
  refine ⟨_, .agg c', ?_, .agg h2, h3⟩
  simp only [execOp, ho, Instr.build, Sem.run_bind, run_zeroValue hi hz, Result.andThen_ok, run_underlying hu, run_sizeOf hie]
  rw [parts_zip, h1]
  rfl
end Go.Ev
end
