/- Part of the proof that card_holds ends in: an evaluator of closed runs over abstract memories, and that what it says holds of the model. -/
import Derived.Orders
import Derived.Scope
import Derived.Below
import Derived.IntWalk
set_option linter.all false
section
namespace Go.Ev
inductive T (α : Type) where
  | nil : T α
  | node (l : T α) (v : Option α) (r : T α) : T α
namespace T
variable {α : Type}
def get : T α → Nat → Option α
  | .nil, _ => none
  | .node _ v _, 0 => v
  | .node l _ r, k + 1 => if k % 2 = 0 then l.get (k / 2) else r.get (k / 2)
noncomputable def pickN {β : Type} (b : Nat) : β → β → β := Nat.rec (motive := fun _ => β → β → β) (fun l _ => l) (fun _ _ _ r => r) b
noncomputable def someK (v : Option α) : (α → Bool) → Bool := Option.rec (motive := fun _ => (α → Bool) → Bool) (fun _ => false) (fun a K => K a) v
noncomputable def getK (t : T α) : Nat → (α → Bool) → Bool :=
  T.rec (motive := fun _ => Nat → (α → Bool) → Bool) (fun _ _ => false)
    (fun _ v _ gl gr k => Nat.rec (motive := fun _ => Option α → (Nat → (α → Bool) → Bool) → (Nat → (α → Bool) → Bool) → (α → Bool) → Bool) (fun v _ _ => someK v)
      (fun k' _ _ gl gr => Nat.rec (motive := fun _ => (Nat → (α → Bool) → Bool) → (Nat → (α → Bool) → Bool) → Nat → (α → Bool) → Bool) (fun l _ => l) (fun _ _ _ r => r) (Nat.mod k' 2) gl gr (Nat.div k' 2)) k v gl gr) t
theorem getK_eq (t : T α) : ∀ (k : Nat) (K : α → Bool), t.getK k K = match t.get k with | some v => K v | none => false := by
  induction t with
  | nil => intro k K; rfl
  | node l v r ihl ihr =>
    intro k K
    cases k with
    | zero => show someK v K = _; cases v <;> rfl
    | succ k =>
      have e : (T.node l v r).getK (k + 1) K = Nat.rec (motive := fun _ => Bool) (l.getK (Nat.div k 2) K) (fun _ _ => r.getK (Nat.div k 2) K) (Nat.mod k 2) := by
        show (Nat.rec (motive := fun _ => (Nat → (α → Bool) → Bool) → (Nat → (α → Bool) → Bool) → Nat → (α → Bool) → Bool) (fun l _ => l) (fun _ _ _ r => r) (Nat.mod k 2) l.getK r.getK (Nat.div k 2) : (α → Bool) → Bool) K = _
        cases Nat.mod k 2 <;> rfl
      rw [e]
      have hd : Nat.div k 2 = k / 2 := rfl
      have hm : Nat.mod k 2 = k % 2 := rfl
      rw [hd, hm]
      simp only [get]
      by_cases h : k % 2 = 0
      · rw [h]; simp only [if_true]; exact ihl _ _
      · have h1 : k % 2 = 1 := by omega
        rw [h1, if_neg (by decide)]; exact ihr _ _
theorem getK_true {t : T α} {k : Nat} {K : α → Bool} (h : t.getK k K = true) : ∃ v, t.get k = some v ∧ K v = true := by
  rw [getK_eq] at h
  cases hg : t.get k with
  | none => simp [hg] at h
  | some v => exact ⟨v, rfl, by simpa [hg] using h⟩
noncomputable def oneK (f : Nat) : Nat → α → (T α → Bool) → Bool :=
  Nat.rec (motive := fun _ => Nat → α → (T α → Bool) → Bool) (fun _ _ _ => false)
    (fun _ ih k x K => Nat.rec (motive := fun _ => Bool) (K (.node .nil (some x) .nil))
      (fun k' _ => Nat.rec (motive := fun _ => Bool) (ih (Nat.div k' 2) x fun s => K (.node s none .nil)) (fun _ _ => ih (Nat.div k' 2) x fun s => K (.node .nil none s)) (Nat.mod k' 2)) k) f
noncomputable def optK (t : T α) : Nat → Bool → (α → Bool) → Bool :=
  T.rec (motive := fun _ => Nat → Bool → (α → Bool) → Bool) (fun _ Z _ => Z)
    (fun _ v _ gl gr k => Nat.rec (motive := fun _ => Option α → (Nat → Bool → (α → Bool) → Bool) → (Nat → Bool → (α → Bool) → Bool) → Bool → (α → Bool) → Bool) (fun v _ _ => Option.rec (motive := fun _ => Bool → (α → Bool) → Bool) (fun Z _ => Z) (fun a _ K => K a) v)
      (fun k' _ _ gl gr => Nat.rec (motive := fun _ => (Nat → Bool → (α → Bool) → Bool) → (Nat → Bool → (α → Bool) → Bool) → Nat → Bool → (α → Bool) → Bool) (fun l _ => l) (fun _ _ _ r => r) (Nat.mod k' 2) gl gr (Nat.div k' 2)) k v gl gr) t
theorem optK_eq (t : T α) : ∀ (k : Nat) (Z : Bool) (K : α → Bool), t.optK k Z K = match t.get k with | some v => K v | none => Z := by
  induction t with
  | nil => intro k Z K; rfl
  | node l v r ihl ihr =>
    intro k Z K
    cases k with
    | zero => show (Option.rec (motive := fun _ => Bool → (α → Bool) → Bool) (fun Z _ => Z) (fun a _ K => K a) v : Bool → (α → Bool) → Bool) Z K = _; cases v <;> rfl
    | succ k =>
      have e : (T.node l v r).optK (k + 1) Z K = Nat.rec (motive := fun _ => Bool) (l.optK (Nat.div k 2) Z K) (fun _ _ => r.optK (Nat.div k 2) Z K) (Nat.mod k 2) := by
        show (Nat.rec (motive := fun _ => (Nat → Bool → (α → Bool) → Bool) → (Nat → Bool → (α → Bool) → Bool) → Nat → Bool → (α → Bool) → Bool) (fun l _ => l) (fun _ _ _ r => r) (Nat.mod k 2) l.optK r.optK (Nat.div k 2) : Bool → (α → Bool) → Bool) Z K = _
        cases Nat.mod k 2 <;> rfl
      rw [e]
      rw [show Nat.div k 2 = k / 2 from rfl, show Nat.mod k 2 = k % 2 from rfl]
      simp only [get]
      by_cases h : k % 2 = 0
      · rw [h]; simp only [if_true]; exact ihl _ _ _
      · have h1 : k % 2 = 1 := by omega
        rw [h1, if_neg (by decide)]; exact ihr _ _ _
theorem get_succ (l r : T α) (v : Option α) (j : Nat) : (T.node l v r).get (j + 1) = if j % 2 = 0 then l.get (j / 2) else r.get (j / 2) := rfl
theorem get_nil (j : Nat) : (T.nil : T α).get j = none := by cases j <;> rfl
theorem oneK_true : ∀ (f k : Nat) (x : α) (K : T α → Bool), oneK f k x K = true → ∃ s, (∀ j, s.get j = if j = k then some x else none) ∧ K s = true := by
  intro f
  induction f with
  | zero => intro k x K h; exact absurd h (by simp [oneK])
  | succ f ih =>
    intro k x K h
    cases k with
    | zero =>
      refine ⟨.node .nil (some x) .nil, fun j => ?_, h⟩
      cases j with
      | zero => rfl
      | succ j => rw [get_succ]; simp [get_nil]
    | succ k =>
      have e : oneK (f + 1) (k + 1) x K = Nat.rec (motive := fun _ => Bool) (oneK f (Nat.div k 2) x fun s => K (.node s none .nil)) (fun _ _ => oneK f (Nat.div k 2) x fun s => K (.node .nil none s)) (Nat.mod k 2) := rfl
      rw [e] at h
      rw [show Nat.div k 2 = k / 2 from rfl, show Nat.mod k 2 = k % 2 from rfl] at h
      by_cases hk : k % 2 = 0
      · rw [hk] at h
        obtain ⟨s, hs, hK⟩ := ih (k / 2) x _ h
        refine ⟨_, fun j => ?_, hK⟩
        cases j with
        | zero => simp [get]
        | succ j =>
          rw [get_succ, get_nil]
          by_cases hj : j % 2 = 0
          · rw [if_pos hj, hs]; congr 1; apply propext; constructor <;> intro h' <;> omega
          · rw [if_neg hj, if_neg (by omega)]
      · rw [show k % 2 = 1 by omega] at h
        obtain ⟨s, hs, hK⟩ := ih (k / 2) x _ h
        refine ⟨_, fun j => ?_, hK⟩
        cases j with
        | zero => simp [get]
        | succ j =>
          rw [get_succ, get_nil]
          by_cases hj : j % 2 = 0
          · rw [if_pos hj, if_neg (by omega)]
          · rw [if_neg hj, hs]; congr 1; apply propext; constructor <;> intro h' <;> omega
noncomputable def setK (t : T α) : Nat → α → (T α → Bool) → Bool :=
  T.rec (motive := fun _ => Nat → α → (T α → Bool) → Bool) (fun k x K => oneK 64 k x K)
    (fun l v r sl sr k => Nat.rec (motive := fun _ => T α → Option α → T α → (Nat → α → (T α → Bool) → Bool) → (Nat → α → (T α → Bool) → Bool) → α → (T α → Bool) → Bool) (fun l _ r _ _ x K => K (.node l (some x) r))
      (fun k' _ l v r sl sr => Nat.rec (motive := fun _ => T α → Option α → T α → (Nat → α → (T α → Bool) → Bool) → (Nat → α → (T α → Bool) → Bool) → Nat → α → (T α → Bool) → Bool)
        (fun l v r sl _ k x K => sl k x fun s => K (.node s v r)) (fun _ _ l v r _ sr k x K => sr k x fun s => K (.node l v s)) (Nat.mod k' 2) l v r sl sr (Nat.div k' 2)) k l v r sl sr) t
theorem setK_true (t : T α) : ∀ (k : Nat) (x : α) (K : T α → Bool), t.setK k x K = true → ∃ s, (∀ j, s.get j = if j = k then some x else t.get j) ∧ K s = true := by
  induction t with
  | nil =>
    intro k x K h
    obtain ⟨s, hs, hK⟩ := oneK_true 64 k x K h
    exact ⟨s, fun j => by rw [hs, get_nil], hK⟩
  | node l v r ihl ihr =>
    intro k x K h
    cases k with
    | zero =>
      refine ⟨.node l (some x) r, fun j => ?_, h⟩
      cases j with
      | zero => rfl
      | succ j => rw [if_neg (show ¬ (j + 1 = 0) by omega)]; rfl
    | succ k =>
      have e : (T.node l v r).setK (k + 1) x K = Nat.rec (motive := fun _ => Bool) (l.setK (Nat.div k 2) x fun s => K (.node s v r)) (fun _ _ => r.setK (Nat.div k 2) x fun s => K (.node l v s)) (Nat.mod k 2) := by
        show (Nat.rec (motive := fun _ => T α → Option α → T α → (Nat → α → (T α → Bool) → Bool) → (Nat → α → (T α → Bool) → Bool) → Nat → α → (T α → Bool) → Bool) (fun l v r sl _ k x K => sl k x fun s => K (.node s v r)) (fun _ _ l v r _ sr k x K => sr k x fun s => K (.node l v s)) (Nat.mod k 2) l v r l.setK r.setK (Nat.div k 2) : α → (T α → Bool) → Bool) x K = _
        cases Nat.mod k 2 <;> rfl
      rw [e] at h
      rw [show Nat.div k 2 = k / 2 from rfl, show Nat.mod k 2 = k % 2 from rfl] at h
      by_cases hk : k % 2 = 0
      · rw [hk] at h
        obtain ⟨s, hs, hK⟩ := ihl (k / 2) x _ h
        refine ⟨_, fun j => ?_, hK⟩
        cases j with
        | zero => rw [if_neg (by omega)]; rfl
        | succ j =>
          rw [get_succ, get_succ]
          by_cases hj : j % 2 = 0
          · rw [if_pos hj, if_pos hj, hs]; congr 1; apply propext; constructor <;> intro h' <;> omega
          · rw [if_neg hj, if_neg hj, if_neg (by omega)]
      · rw [show k % 2 = 1 by omega] at h
        obtain ⟨s, hs, hK⟩ := ihr (k / 2) x _ h
        refine ⟨_, fun j => ?_, hK⟩
        cases j with
        | zero => rw [if_neg (by omega)]; rfl
        | succ j =>
          rw [get_succ, get_succ]
          by_cases hj : j % 2 = 0
          · rw [if_pos hj, if_pos hj, if_neg (by omega)]
          · rw [if_neg hj, if_neg hj, hs]; congr 1; apply propext; constructor <;> intro h' <;> omega
end T
noncomputable def natK (n : Nat) (K : Nat → Bool) : Bool := Nat.rec (motive := fun _ => Bool) (K 0) (fun m _ => K (Nat.succ m)) n
theorem natK_eq (n : Nat) (K : Nat → Bool) : natK n K = K n := by cases n <;> rfl
noncomputable def intK (n : Int) (K : Int → Bool) : Bool :=
  Int.rec (motive := fun _ => Bool) (fun a => natK a fun a => K (Int.ofNat a)) (fun a => natK a fun a => K (Int.negSucc a)) n
theorem intK_eq (n : Int) (K : Int → Bool) : intK n K = K n := by
  cases n with
  | ofNat a => exact natK_eq a fun a => K (Int.ofNat a)
  | negSucc a => exact natK_eq a fun a => K (Int.negSucc a)
def dec : Nat → Nat → List UInt8
  | 0, _ => []
  | n + 1, c => UInt8.ofNat (c / 256 ^ n) :: dec n (c % 256 ^ n)
theorem dec_length : ∀ n c, (dec n c).length = n
  | 0, _ => rfl
  | n + 1, c => by simp [dec, dec_length n]
theorem dec_mod (n c : Nat) : dec n (c % 256 ^ n) = dec n c := by
  cases n with
  | zero => rfl
  | succ n =>
    simp only [dec]
    congr 1
    · rw [Nat.pow_succ, Nat.mod_mul_right_div_self]
      apply UInt8.toNat_inj.1; simp
    · congr 1
      rw [Nat.pow_succ, Nat.mod_mul_right_mod]
theorem dec_append (n m a b : Nat) (hb : b < 256 ^ m) : dec (n + m) (a * 256 ^ m + b) = dec n a ++ dec m b := by
  induction n generalizing a with
  | zero =>
    simp only [Nat.zero_add, dec, List.nil_append]
    rw [← dec_mod m (a * 256 ^ m + b), Nat.mul_add_mod_self_right, Nat.mod_eq_of_lt hb]
  | succ n ih =>
    have e : n + 1 + m = (n + m) + 1 := by omega
    rw [e]
    simp only [dec, List.cons_append]
    have hp : 256 ^ (n + m) = 256 ^ m * 256 ^ n := by rw [Nat.pow_add, Nat.mul_comm]
    have hpos : 0 < 256 ^ m := Nat.pow_pos (by decide)
    have h1 : (a * 256 ^ m + b) / 256 ^ (n + m) = a / 256 ^ n := by
      rw [hp, ← Nat.div_div_eq_div_mul, Nat.mul_comm a, Nat.mul_add_div hpos, Nat.div_eq_of_lt hb, Nat.add_zero]
    have h2 : (a * 256 ^ m + b) % 256 ^ (n + m) = (a % 256 ^ n) * 256 ^ m + b := by
      rw [hp, Nat.mod_mul, Nat.mul_comm a, Nat.mul_add_mod, Nat.mod_eq_of_lt hb, Nat.mul_add_div hpos, Nat.div_eq_of_lt hb, Nat.add_zero]
      rw [Nat.add_comm, Nat.mul_comm]
    rw [h1, h2, ih]
theorem dec_split (n m c : Nat) : dec (n + m) c = dec n (c / 256 ^ m) ++ dec m (c % 256 ^ m) := by
  have h := dec_append n m (c / 256 ^ m) (c % 256 ^ m) (Nat.mod_lt _ (Nat.pow_pos (by decide)))
  rw [Nat.mul_comm, Nat.div_add_mod] at h
  exact h
theorem dec_slice (n l h c : Nat) (h1 : l ≤ h) (h2 : h ≤ n) : ((dec n c).take h).drop l = dec (h - l) (c / 256 ^ (n - h)) := by
  obtain ⟨d, rfl⟩ : ∃ d, n = h + d := ⟨n - h, by omega⟩
  obtain ⟨e, rfl⟩ : ∃ e, h = l + e := ⟨h - l, by omega⟩
  rw [dec_split (l + e) d, List.take_left' (dec_length _ _), show l + e + d - (l + e) = d by omega, dec_split l e, List.drop_left' (dec_length _ _), show l + e - l = e by omega, dec_mod]
theorem dec_get (n i c : Nat) (hi : i < n) : (dec n c)[i]? = some (UInt8.ofNat (c / 256 ^ (n - 1 - i))) := by
  obtain ⟨d, rfl⟩ : ∃ d, n = i + (d + 1) := ⟨n - 1 - i, by omega⟩
  rw [dec_split i (d + 1), List.getElem?_append_right (by simp [dec_length])]
  simp only [dec_length, Nat.sub_self, dec, List.getElem?_cons_zero]
  rw [show i + (d + 1) - 1 - i = d by omega, Nat.pow_succ, Nat.mod_mul_right_div_self]
  congr 1; apply UInt8.toNat_inj.1; simp
theorem dec_inj : ∀ (n a b : Nat), a < 256 ^ n → b < 256 ^ n → dec n a = dec n b → a = b
  | 0, a, b, ha, hb, _ => by simp at ha hb; omega
  | n + 1, a, b, ha, hb, h => by
    simp only [dec, List.cons.injEq] at h
    have hp : 0 < 256 ^ n := Nat.pow_pos (by decide)
    have h2 := dec_inj n _ _ (Nat.mod_lt _ hp) (Nat.mod_lt _ hp) h.2
    have ha' : a / 256 ^ n < 256 := by rw [Nat.div_lt_iff_lt_mul hp, Nat.mul_comm, ← Nat.pow_succ]; exact ha
    have hb' : b / 256 ^ n < 256 := by rw [Nat.div_lt_iff_lt_mul hp, Nat.mul_comm, ← Nat.pow_succ]; exact hb
    have h1 := congrArg UInt8.toNat h.1
    simp only [UInt8.toNat_ofNat'] at h1
    rw [Nat.mod_eq_of_lt ha', Nat.mod_eq_of_lt hb'] at h1
    rw [← Nat.div_add_mod a (256 ^ n), ← Nat.div_add_mod b (256 ^ n), h1, h2]
def enc (l : List UInt8) : Nat := l.foldl (fun c b => c * 256 + b.toNat) 0
theorem enc_snoc (l : List UInt8) (b : UInt8) : enc (l ++ [b]) = enc l * 256 + b.toNat := by simp [enc]
theorem enc_lt (l : List UInt8) : enc l < 256 ^ l.length := by
  suffices h : ∀ (r : List UInt8), enc r.reverse < 256 ^ r.length by simpa using h l.reverse
  intro r
  induction r with
  | nil => simp [enc]
  | cons b r ih =>
    rw [List.reverse_cons, enc_snoc, List.length_cons, Nat.pow_succ]
    have := b.toNat_lt
    omega
theorem dec_enc (l : List UInt8) : dec l.length (enc l) = l := by
  suffices h : ∀ (r : List UInt8), dec r.length (enc r.reverse) = r.reverse by simpa using h l.reverse
  intro r
  induction r with
  | nil => rfl
  | cons b r ih =>
    rw [List.reverse_cons, enc_snoc, List.length_cons]
    have := dec_append r.length 1 (enc r.reverse) b.toNat (by have := b.toNat_lt; omega)
    rw [Nat.pow_one] at this
    rw [this, ih]
    simp [dec]
end Go.Ev
end
section
namespace Go.Ev
inductive V where
  | bool (b : Bool)
  | int (k : IntKind) (n : Int)
  | str (len code : Nat)
  | ptr (b off : Nat)
  | nilp
  | slice (b off len e : Nat) (cap : Option Nat)
  | nils
  | map (b : Nat)
  | nilm
  | func (f : FuncId) (first cap : List V)
  | nilf
  | iface (t : TypeId) (v : V)
  | nili
  | agg (l : List V)
  | tup (l : List V)
  | yld (b : Nat)
structure Loc where
  blk : Nat
  base : Nat
  cs : Nat
abbrev Phi := Nat → Option Loc
mutual
inductive VR (φ : Phi) : V → Value → Prop where
  | bool (b : Bool) : VR φ (.bool b) (.bool b)
  | int (k : IntKind) (n : Int) : VR φ (.int k n) (.int k n)
  | str {n c : Nat} {s : ByteArray} : s.data.toList = dec n c → c < 256 ^ n → VR φ (.str n c) (.string s)
  | ptr {b off : Nat} {L : Loc} : φ b = some L → VR φ (.ptr b off) (.pointer (some ⟨L.blk, L.base + off, none⟩))
  | nilp : VR φ .nilp (.pointer none)
  | slice {b off len e cap : Nat} {oc : Option Nat} {L : Loc} : φ b = some L → L.base + off + cap * e ≤ L.cs → len ≤ cap → (∀ c, oc = some c → cap = c) →
      VR φ (.slice b off len e oc) (.slice (some ⟨L.blk, L.base + off, none⟩) len cap)
  | slice0 {b off e : Nat} {oc : Option Nat} {a : Addr} {L : Loc} : φ b = some L → (∀ c, oc = some c → c = 0) → VR φ (.slice b off 0 e oc) (.slice (some a) 0 0)
  | nils : VR φ .nils (.slice none 0 0)
  | map {b : Nat} {L : Loc} : φ b = some L → VR φ (.map b) (.map (some L.blk))
  | nilm : VR φ .nilm (.map none)
  | func {f : FuncId} {first cap : List V} {xs ys : Array Value} : VRs φ first xs.toList → VRs φ cap ys.toList → VR φ (.func f first cap) (.func (.func f) xs ys)
  | nilf : VR φ .nilf .nilFunc
  | iface {t : TypeId} {v : V} {x : Value} : VR φ v x → VR φ (.iface t v) (.iface t x)
  | nili : VR φ .nili .nilIface
  | agg {l : List V} {xs : Array Value} : VRs φ l xs.toList → VR φ (.agg l) (.agg xs)
  | tup {l : List V} {xs : Array Value} : VRs φ l xs.toList → VR φ (.tup l) (.tuple xs)
  | yld {b : Nat} {L : Loc} : φ b = some L → VR φ (.yld b) (.func (.yield L.blk) #[] #[])
inductive VRs (φ : Phi) : List V → List Value → Prop where
  | nil : VRs φ [] []
  | cons {v : V} {x : Value} {l : List V} {xs : List Value} : VR φ v x → VRs φ l xs → VRs φ (v :: l) (x :: xs)
end
def Ext (φ φ' : Phi) : Prop := ∀ b L, φ b = some L → φ' b = some L
theorem Ext.refl (φ : Phi) : Ext φ φ := fun _ _ h => h
theorem Ext.trans {a b c : Phi} (h : Ext a b) (k : Ext b c) : Ext a c := fun x L hx => k x L (h x L hx)
mutual
theorem VR.mono {φ φ' : Phi} (hx : Ext φ φ') : ∀ {v : V} {x : Value}, VR φ v x → VR φ' v x
  | _, _, .bool b => .bool b
  | _, _, .int k n => .int k n
  | _, _, .str h c => .str h c
  | _, _, .ptr h => .ptr (hx _ _ h)
  | _, _, .nilp => .nilp
  | _, _, .slice h a b c => .slice (hx _ _ h) a b c
  | _, _, .slice0 h c => .slice0 (hx _ _ h) c
  | _, _, .nils => .nils
  | _, _, .map h => .map (hx _ _ h)
  | _, _, .nilm => .nilm
  | _, _, .func a b => .func (VRs.mono hx a) (VRs.mono hx b)
  | _, _, .nilf => .nilf
  | _, _, .iface h => .iface (VR.mono hx h)
  | _, _, .nili => .nili
  | _, _, .agg h => .agg (VRs.mono hx h)
  | _, _, .tup h => .tup (VRs.mono hx h)
  | _, _, .yld h => .yld (hx _ _ h)
theorem VRs.mono {φ φ' : Phi} (hx : Ext φ φ') : ∀ {l : List V} {xs : List Value}, VRs φ l xs → VRs φ' l xs
  | _, _, .nil => .nil
  | _, _, .cons h t => .cons (VR.mono hx h) (VRs.mono hx t)
end
theorem VRs.length {φ : Phi} : ∀ {l : List V} {xs : List Value}, VRs φ l xs → l.length = xs.length
  | _, _, .nil => rfl
  | _, _, .cons _ t => by simp [VRs.length t]
theorem VRs.append {φ : Phi} : ∀ {l m : List V} {xs ys : List Value}, VRs φ l xs → VRs φ m ys → VRs φ (l ++ m) (xs ++ ys)
  | _, _, _, _, .nil, h => h
  | _, _, _, _, .cons a t, h => .cons a (VRs.append t h)
theorem VRs.get {φ : Phi} : ∀ {l : List V} {xs : List Value} {i : Nat} {v : V}, VRs φ l xs → l[i]? = some v → ∃ x, xs[i]? = some x ∧ VR φ v x
  | _, _, i, v, .nil, h => by simp at h
  | _, _, 0, v, .cons a t, h => by simp at h; subst h; exact ⟨_, rfl, a⟩
  | _, _, i + 1, v, .cons a t, h => by simpa using VRs.get t (by simpa using h)
theorem VRs.take {φ : Phi} : ∀ {l : List V} {xs : List Value} (n : Nat), VRs φ l xs → VRs φ (l.take n) (xs.take n)
  | _, _, 0, h => by simpa using VRs.nil
  | _, _, n + 1, .nil => by simpa using VRs.nil
  | _, _, n + 1, .cons a t => by simpa using VRs.cons a (VRs.take n t)
theorem VRs.drop {φ : Phi} : ∀ {l : List V} {xs : List Value} (n : Nat), VRs φ l xs → VRs φ (l.drop n) (xs.drop n)
  | _, _, 0, h => h
  | _, _, n + 1, .nil => by simpa using VRs.nil
  | _, _, n + 1, .cons a t => by simpa using VRs.drop n t
theorem VRs.set {φ : Phi} : ∀ {l : List V} {xs : List Value} (n : Nat) {v : V} {x : Value}, VRs φ l xs → VR φ v x → VRs φ (l.set n v) (xs.set n x)
  | _, _, _, _, _, .nil, _ => .nil
  | _, _, 0, _, _, .cons a t, h => .cons h t
  | _, _, n + 1, _, _, .cons a t, h => .cons a (VRs.set n t h)
structure Ent where
  key : V
  val : V
  born : Nat
inductive Ents (φ : Phi) : List Ent → List MapEntry → Prop where
  | nil : Ents φ [] []
  | cons {e : Ent} {x : MapEntry} {l : List Ent} {xs : List MapEntry} : VR φ e.key x.key → VR φ e.val x.val → e.born = x.born → Ents φ l xs → Ents φ (e :: l) (x :: xs)
theorem Ents.mono {φ φ' : Phi} (hx : Ext φ φ') : ∀ {l : List Ent} {xs : List MapEntry}, Ents φ l xs → Ents φ' l xs
  | _, _, .nil => .nil
  | _, _, .cons a b c t => .cons (a.mono hx) (b.mono hx) c (Ents.mono hx t)
inductive Jmp where
  | none
  | ret
  | exit (id : Nat)
def Jmp.code : Jmp → Option Code
  | .none => Option.none
  | .ret => some .ret
  | .exit id => some (.exit id)
def stN : LoopState → Nat
  | .ready => 0
  | .busy => 1
  | .done => 2
  | .exhausted => 3
inductive Dat where
  | cells (t : T V)
  | bytes (c : Nat)
  | map (es : List Ent) (clock : Nat)
  | mit (b since : Nat) (seen : List Nat) (last : Nat)
  | lrec (Lp : Nat → Bool) (loc : T V) (ps : List Nat) (asg body : Code) (st : Nat) (pend : Jmp)
structure Blk where
  g : Nat
  pos : Nat
  n : Nat
  d : Dat
  ty : Option (TypeId × Bool)
structure Grp where
  minv : Nat
  maxe : Nat
  last : Nat
structure H where
  next : Nat
  bl : T Blk
  gr : T Grp
def Live (h : H) (b : Nat) (k : Blk) : Prop := ∀ G, h.gr.get k.g = some G → G.minv ≤ b
def Open (fr : Nat × Nat) (cs : Nat) : Prop := ∀ o, o < cs → ¬ (fr.1 ≤ o ∧ o < fr.2)
def byteVal (b : UInt8) : Value := .int .u8 b.toNat
def Holds (φ : Phi) (w : World) (L : Loc) (n : Nat) : Dat → Prop
  | .cells t => ∃ c elem fr, w.heap[L.blk]? = some (.cells c elem fr) ∧ c.size = L.cs ∧ Open fr L.cs ∧ L.base + n ≤ L.cs ∧
      ∀ j v, j < n → t.get j = some v → ∃ x, c[L.base + j]? = some x ∧ VR φ v x
  | .bytes cd => ∃ c elem fr, w.heap[L.blk]? = some (.cells c elem fr) ∧ c.size = L.cs ∧ Open fr L.cs ∧ L.base + n ≤ L.cs ∧ cd < 256 ^ n ∧
      (c.toList.drop L.base).take n = (dec n cd).map byteVal
  | .map es clock => ∃ xs, w.heap[L.blk]? = some (.map xs clock) ∧ Ents φ es xs.toList
  | .mit b since seen last => ∃ L', φ b = some L' ∧ w.heap[L.blk]? = some (.mapIter (some L'.blk) since seen.toArray last) ∧ L.base = 0
  | .lrec Lp loc ps asg body st pend => ∃ r : Loop, w.heap[L.blk]? = some (.loop r) ∧ n ≤ r.tmps.size ∧ r.params.toList = ps ∧ r.assign = asg ∧ r.body = body ∧ stN r.state = st ∧ r.pending = pend.code ∧
      ∀ t v, loc.get t = some v → Lp t = true ∧ VR φ v (r.tmps.getD t undef)
structure HR0 (B : Nat) (φ : Phi) (h : H) (w : World) : Prop where
  size : B ≤ w.heap.size
  dom : ∀ b L, φ b = some L → b < h.next ∧ B ≤ L.blk ∧ L.blk < w.heap.size
  hold : ∀ b L k, φ b = some L → h.bl.get b = some k → Live h b k → Holds φ w L k.n k.d
  sep : ∀ b b' L L' k k', φ b = some L → φ b' = some L' → h.bl.get b = some k → h.bl.get b' = some k' → Live h b k → Live h b' k' →
    k.g ≠ k'.g → L.blk ≠ L'.blk
  aln : ∀ b b' L L' k k', φ b = some L → φ b' = some L' → h.bl.get b = some k → h.bl.get b' = some k' → Live h b k → Live h b' k' →
    k.g = k'.g → L.blk = L'.blk → L.base + k'.pos = L'.base + k.pos
  reach : ∀ b L k G, φ b = some L → h.bl.get b = some k → Live h b k → h.gr.get k.g = some G → k.pos + k.n ≤ G.maxe
  last : ∀ b k G, h.bl.get b = some k → h.gr.get k.g = some G → b ≤ G.last
  lone : ∀ b L k, φ b = some L → h.bl.get b = some k → h.gr.get k.g = none → b = k.g
  grp : ∀ b k, h.bl.get b = some k → k.g < h.next
  fresh : ∀ b k, h.bl.get b = some k → b < h.next
  grn : ∀ g x, h.gr.get g = some x → g < h.next
  elt : ∀ b L k e, φ b = some L → h.bl.get b = some k → k.ty = some e → ∃ c fr, w.heap[L.blk]? = some (.cells c e.1 fr) ∧ (e.2 = true → L.base = 0 ∧ c.size = k.n)
theorem Holds.mono {φ φ' : Phi} (hx : Ext φ φ') {w : World} {L : Loc} {n : Nat} {d : Dat} (h : Holds φ w L n d) : Holds φ' w L n d := by
  cases d with
  | cells t =>
    obtain ⟨c, elem, fr, h1, h2, h3, h4, h5⟩ := h
    exact ⟨c, elem, fr, h1, h2, h3, h4, fun j v hj hv => let ⟨x, hc, hr⟩ := h5 j v hj hv; ⟨x, hc, hr.mono hx⟩⟩
  | bytes cd => exact h
  | map es clock =>
    obtain ⟨xs, h1, h2⟩ := h
    exact ⟨xs, h1, h2.mono hx⟩
  | mit b since seen last =>
    obtain ⟨L', h1, h2, h3⟩ := h
    exact ⟨L', hx _ _ h1, h2, h3⟩
  | lrec Lp loc ps asg body st pend =>
    obtain ⟨r, h1, h2, h3, h4, h5, h6, h7, h8⟩ := h
    exact ⟨r, h1, h2, h3, h4, h5, h6, h7, fun t v ht => ⟨(h8 t v ht).1, (h8 t v ht).2.mono hx⟩⟩
theorem Holds.heap {φ : Phi} {w w' : World} {L : Loc} {n : Nat} {d : Dat} (h : Holds φ w L n d) (hw : w'.heap[L.blk]? = w.heap[L.blk]?) : Holds φ w' L n d := by
  cases d <;> simp only [Holds] at h ⊢ <;> rw [hw] <;> exact h
theorem HR0.keep {B : Nat} {φ : Phi} {h : H} {w w' : World} (hr : HR0 B φ h w) (hs : w.heap.size ≤ w'.heap.size) (hb : ∀ k, k < w.heap.size → w'.heap[k]? = w.heap[k]?) : HR0 B φ h w' where
  size := Nat.le_trans hr.size hs
  dom b L hL := let ⟨a, b, c⟩ := hr.dom b L hL; ⟨a, b, Nat.lt_of_lt_of_le c hs⟩
  hold b L k hL hk hl := (hr.hold b L k hL hk hl).heap (hb _ (hr.dom b L hL).2.2)
  sep := hr.sep
  aln := hr.aln
  reach := hr.reach
  lone := hr.lone
  grp := hr.grp
  fresh := hr.fresh
  grn := hr.grn
  last := hr.last
  elt b L k e hL hk ht := let ⟨c, fr, hc, h1⟩ := hr.elt b L k e hL hk ht; ⟨c, fr, by rw [hb _ (hr.dom b L hL).2.2]; exact hc, h1⟩
def Phi.put (φ : Phi) (b : Nat) (L : Loc) : Phi := fun x => if x = b then some L else φ x
theorem Phi.put_self (φ : Phi) (b : Nat) (L : Loc) : φ.put b L b = some L := by simp [Phi.put]
theorem Phi.put_ne (φ : Phi) {b x : Nat} (L : Loc) (h : x ≠ b) : φ.put b L x = φ x := by simp [Phi.put, h]
theorem Phi.ext_put {φ : Phi} {b : Nat} {L : Loc} (h : φ b = none) : Ext φ (φ.put b L) := by
  intro x M hx
  have : x ≠ b := by intro e; subst e; rw [h] at hx; exact absurd hx (by simp)
  rw [Phi.put_ne φ L this]; exact hx
theorem HR0.unmapped {B : Nat} {φ : Phi} {h : H} {w : World} (hr : HR0 B φ h w) {b : Nat} (hb : h.next ≤ b) : φ b = none := by
  cases hx : φ b with
  | none => rfl
  | some L => exact absurd (hr.dom b L hx).1 (by omega)
def H.add (h : H) (bl : T Blk) : H := ⟨h.next + 1, bl, h.gr⟩
structure Added (h : H) (k : Blk) (h' : H) : Prop where
  next : h'.next = h.next + 1
  gr : h'.gr = h.gr
  bl : ∀ j, h'.bl.get j = if j = h.next then some k else h.bl.get j
  g : k.g = h.next
  pos : k.pos = 0
theorem HR0.added {B : Nat} {φ : Phi} {h h' : H} {w : World} {k : Blk} (hr : HR0 B φ h w) (ha : Added h k h') : HR0 B φ h' w := by
  have hne : ∀ b L, φ b = some L → b ≠ h.next := fun b L hL e => by have := (hr.dom b L hL).1; omega
  have hb : ∀ b L, φ b = some L → h'.bl.get b = h.bl.get b := fun b L hL => by rw [ha.bl, if_neg (hne b L hL)]
  have hl : ∀ b k, Live h' b k ↔ Live h b k := fun b k => by unfold Live; rw [ha.gr]
  refine ⟨hr.size, fun b L hL => ?_, fun b L k' hL hk hl' => ?_, ?_, ?_, ?_, ?_, ?_, ?_, ?_, ?_, fun b L k' e hL hk ht => hr.elt b L k' e hL ((hb b L hL) ▸ hk) ht⟩
  · have := hr.dom b L hL; rw [ha.next]; exact ⟨by omega, this.2⟩
  · exact hr.hold b L k' hL ((hb b L hL) ▸ hk) ((hl _ _).1 hl')
  · intro b b' L L' k1 k2 h1 h2 h3 h4 h5 h6
    exact hr.sep b b' L L' k1 k2 h1 h2 ((hb b L h1) ▸ h3) ((hb b' L' h2) ▸ h4) ((hl _ _).1 h5) ((hl _ _).1 h6)
  · intro b b' L L' k1 k2 h1 h2 h3 h4 h5 h6
    exact hr.aln b b' L L' k1 k2 h1 h2 ((hb b L h1) ▸ h3) ((hb b' L' h2) ▸ h4) ((hl _ _).1 h5) ((hl _ _).1 h6)
  · intro b L k1 G h1 h2 h3 h4
    rw [ha.gr] at h4
    exact hr.reach b L k1 G h1 ((hb b L h1) ▸ h2) ((hl _ _).1 h3) h4
  · intro b k1 G h2 h4
    rw [ha.gr] at h4
    rw [ha.bl] at h2
    by_cases e : b = h.next
    · rw [if_pos e] at h2
      simp only [Option.some.injEq] at h2; subst h2
      rw [ha.g] at h4
      have := hr.grn _ _ h4; omega
    · rw [if_neg e] at h2; exact hr.last b k1 G h2 h4
  · intro b L k1 h1 h2 h3
    rw [ha.gr] at h3
    exact hr.lone b L k1 h1 ((hb b L h1) ▸ h2) h3
  · intro b k1 h2
    rw [ha.bl] at h2
    by_cases e : b = h.next
    · rw [if_pos e] at h2
      simp only [Option.some.injEq] at h2; subst h2
      rw [ha.g, ha.next]; omega
    · rw [if_neg e] at h2; have := hr.grp b k1 h2; rw [ha.next]; omega
  · intro b k1 h2
    rw [ha.bl] at h2
    rw [ha.next]
    by_cases e : b = h.next
    · omega
    · rw [if_neg e] at h2; have := hr.fresh b k1 h2; omega
  · intro g x hx
    rw [ha.gr] at hx
    have := hr.grn g x hx; rw [ha.next]; omega
theorem HR0.mapped {B : Nat} {φ : Phi} {h : H} {w w' : World} {b : Nat} {k : Blk} {o : Obj} {cs : Nat} (hr : HR0 B φ h w) (hn : φ b = none)
    (hb : h.bl.get b = some k) (hre : ∀ G, h.gr.get k.g = some G → k.pos + k.n ≤ G.maxe) (hlo : h.gr.get k.g = none → b = k.g) (hw : w'.heap = w.heap.push o)
    (hty : ∀ e, k.ty = some e → ∃ c fr, o = .cells c e.1 fr ∧ (e.2 = true → c.size = k.n)) (hd : Holds φ w' ⟨w.heap.size, 0, cs⟩ k.n k.d) : HR0 B (φ.put b ⟨w.heap.size, 0, cs⟩) h w' := by
  have hsz : w'.heap.size = w.heap.size + 1 := by rw [hw]; simp
  have hold : ∀ x, x < w.heap.size → w'.heap[x]? = w.heap[x]? := fun x hx => by rw [hw, Array.getElem?_push, if_neg (by omega)]
  have hk := hr.keep (w' := w') (by omega) hold
  have hx : Ext φ (φ.put b ⟨w.heap.size, 0, cs⟩) := Phi.ext_put hn
  refine ⟨hk.size, ?_, ?_, ?_, ?_, ?_, hr.last, ?_, hr.grp, hr.fresh, hr.grn, ?_⟩
  rotate_right
  · intro x L k' el hL hk' ht
    by_cases e : x = b
    · subst e
      rw [Phi.put_self] at hL
      simp only [Option.some.injEq] at hL; subst hL
      rw [hb] at hk'; simp only [Option.some.injEq] at hk'; subst hk'
      obtain ⟨c, fr, rfl, h1⟩ := hty el ht
      exact ⟨c, fr, by rw [hw]; simp, fun h => ⟨rfl, h1 h⟩⟩
    · rw [Phi.put_ne φ _ e] at hL; exact hk.elt x L k' el hL hk' ht
  · intro x L hL
    by_cases e : x = b
    · subst e
      rw [Phi.put_self] at hL
      simp only [Option.some.injEq] at hL; subst hL
      exact ⟨hr.fresh _ _ hb, hr.size, by simp only []; omega⟩
    · rw [Phi.put_ne φ _ e] at hL; exact hk.dom x L hL
  · intro x L k' hL hk' hl
    by_cases e : x = b
    · subst e
      rw [Phi.put_self] at hL
      simp only [Option.some.injEq] at hL; subst hL
      rw [hb] at hk'; simp only [Option.some.injEq] at hk'; subst hk'
      exact hd.mono hx
    · rw [Phi.put_ne φ _ e] at hL; exact (hk.hold x L k' hL hk' hl).mono hx
  · intro x y L L' k1 k2 h1 h2 h3 h4 h5 h6 h7
    by_cases e : x = b
    · by_cases e' : y = b
      · subst e; subst e'
        rw [h3] at h4; simp only [Option.some.injEq] at h4; subst h4
        exact absurd rfl h7
      · rw [Phi.put_ne φ _ e'] at h2
        subst e
        rw [Phi.put_self] at h1
        simp only [Option.some.injEq] at h1; subst h1
        have := (hr.dom y L' h2).2.2
        simp only []; omega
    · rw [Phi.put_ne φ _ e] at h1
      by_cases e' : y = b
      · subst e'
        rw [Phi.put_self] at h2
        simp only [Option.some.injEq] at h2; subst h2
        have := (hr.dom x L h1).2.2
        simp only []; omega
      · rw [Phi.put_ne φ _ e'] at h2
        exact hr.sep x y L L' k1 k2 h1 h2 h3 h4 h5 h6 h7
  · intro x y L L' k1 k2 h1 h2 h3 h4 h5 h6 h7 h8
    by_cases e : x = b
    · by_cases e' : y = b
      · subst e; subst e'
        rw [h3] at h4; simp only [Option.some.injEq] at h4; subst h4
        rw [h1] at h2; simp only [Option.some.injEq] at h2; subst h2
        rfl
      · rw [Phi.put_ne φ _ e'] at h2
        subst e
        rw [Phi.put_self] at h1
        simp only [Option.some.injEq] at h1; subst h1
        have := (hr.dom y L' h2).2.2
        simp only [] at h8; omega
    · rw [Phi.put_ne φ _ e] at h1
      by_cases e' : y = b
      · subst e'
        rw [Phi.put_self] at h2
        simp only [Option.some.injEq] at h2; subst h2
        have := (hr.dom x L h1).2.2
        simp only [] at h8; omega
      · rw [Phi.put_ne φ _ e'] at h2
        exact hr.aln x y L L' k1 k2 h1 h2 h3 h4 h5 h6 h7 h8
  · intro x L k1 G h1 h2 h3 h4
    by_cases e : x = b
    · subst e
      rw [hb] at h2; simp only [Option.some.injEq] at h2; subst h2
      exact hre G h4
    · rw [Phi.put_ne φ _ e] at h1; exact hr.reach x L k1 G h1 h2 h3 h4
  · intro x L k1 h1 h2 h3
    by_cases e : x = b
    · subst e
      rw [hb] at h2; simp only [Option.some.injEq] at h2; subst h2
      exact hlo h3
    · rw [Phi.put_ne φ _ e] at h1; exact hr.lone x L k1 h1 h2 h3
theorem Added.at_ {h h' : H} {k : Blk} (ha : Added h k h') : h'.bl.get h.next = some k := by rw [ha.bl, if_pos rfl]
theorem HR0.noGrp {B : Nat} {φ : Phi} {h : H} {w : World} (hr : HR0 B φ h w) : h.gr.get h.next = none := by
  cases hg : h.gr.get h.next with
  | none => rfl
  | some x => exact absurd (hr.grn _ _ hg) (by omega)
structure Wrote (h : H) (b : Nat) (k : Blk) (n : Nat) (d : Dat) (h' : H) : Prop where
  next : h'.next = h.next
  at_ : h.bl.get b = some k
  bl : ∀ j, h'.bl.get j = if j = b then some { k with n := n, d := d } else h.bl.get j
  gr : (h.gr.get k.g = none ∧ h'.gr = h.gr ∧ n ≤ k.n) ∨ ∃ G, h.gr.get k.g = some G ∧ G.last = b ∧ n ≤ k.n ∧ (∀ j, h'.gr.get j = if j = k.g then some { G with minv := b } else h.gr.get j)
theorem HR0.wrote {B : Nat} {φ : Phi} {h h' : H} {w w' : World} {b : Nat} {k : Blk} {L : Loc} {n : Nat} {d : Dat} (hr : HR0 B φ h w) (hw : Wrote h b k n d h') (hl : Live h b k)
    (hL : φ b = some L) (hs : w'.heap.size = w.heap.size) (ho : ∀ x, x ≠ L.blk → w'.heap[x]? = w.heap[x]?)
    (hel : ∀ c e fr, w.heap[L.blk]? = some (.cells c e fr) → ∃ c' fr', w'.heap[L.blk]? = some (.cells c' e fr') ∧ c'.size = c.size) (hd : Holds φ w' L n d) (hnn : n = k.n := by rfl) : HR0 B φ h' w' := by
  have hlive : ∀ x kx, h.bl.get x = some kx → x ≠ b → Live h' x kx → Live h x kx ∧ kx.g ≠ k.g ∨ φ x = none := by
    intro x kx hx hxb hlx
    rcases hw.gr with ⟨hn, hg, _⟩ | ⟨G, hG, hlast, _, hg⟩
    · by_cases e : kx.g = k.g
      · right
        cases hp : φ x with
        | none => rfl
        | some Lx =>
          have h1 := hr.lone x Lx kx hp hx (e ▸ hn)
          have h2 := hr.lone b L k hL hw.at_ hn
          exact absurd (h1.trans (e.trans h2.symm)) hxb
      · left
        exact ⟨by unfold Live at hlx ⊢; rw [hg] at hlx; exact hlx, e⟩
    · by_cases e : kx.g = k.g
      · right
        have h1 := hlx { G with minv := b } (by rw [e, hg, if_pos rfl])
        have h2 := hr.last x kx G hx (e ▸ hG)
        simp only [] at h1; omega
      · left
        refine ⟨fun G' hG' => hlx G' (by rw [hg, if_neg e]; exact hG'), e⟩
  have hget : ∀ x kx, x ≠ b → h'.bl.get x = some kx → h.bl.get x = some kx := fun x kx hx hk => by rw [hw.bl, if_neg hx] at hk; exact hk
  have hgetb : h'.bl.get b = some { k with n := n, d := d } := by rw [hw.bl, if_pos rfl]
  have hle : n ≤ k.n := by rcases hw.gr with ⟨_, _, h⟩ | ⟨_, _, _, h, _⟩ <;> exact h
  refine ⟨by rw [hs]; exact hr.size, fun x Lx hx => ?_, ?_, ?_, ?_, ?_, ?_, ?_, ?_, ?_, ?_, ?_⟩
  rotate_right
  · intro x Lx kx el hx hk ht
    have key : ∃ c fr, w.heap[Lx.blk]? = some (.cells c el.1 fr) ∧ (el.2 = true → Lx.base = 0 ∧ c.size = kx.n) := by
      by_cases e : x = b
      · subst e
        rw [hgetb] at hk; simp only [Option.some.injEq] at hk; subst hk
        subst hnn
        exact hr.elt x Lx k el hx hw.at_ ht
      · exact hr.elt x Lx kx el hx (hget x kx e hk) ht
    obtain ⟨c, fr, hc, h1⟩ := key
    by_cases eb : Lx.blk = L.blk
    · obtain ⟨c', fr', hc', hs'⟩ := hel c el.1 fr (eb ▸ hc)
      exact ⟨c', fr', eb ▸ hc', fun h => ⟨(h1 h).1, hs'.trans (h1 h).2⟩⟩
    · exact ⟨c, fr, by rw [ho _ eb]; exact hc, h1⟩
  · have := hr.dom x Lx hx; rw [hw.next, hs]; exact this
  · intro x Lx kx hx hk hlx
    by_cases e : x = b
    · subst e
      rw [hgetb] at hk; simp only [Option.some.injEq] at hk; subst hk
      rw [hL] at hx; simp only [Option.some.injEq] at hx; subst hx
      exact hd
    · have hk' := hget x kx e hk
      rcases hlive x kx hk' e hlx with ⟨hl', hg⟩ | hn
      · exact (hr.hold x Lx kx hx hk' hl').heap (ho _ (hr.sep x b Lx L kx k hx hL hk' hw.at_ hl' hl hg))
      · rw [hn] at hx; exact absurd hx (by simp)
  · intro x y Lx Ly kx ky hx hy hkx hky hlx hly hg
    by_cases e : x = b
    · by_cases e' : y = b
      · subst e; subst e'; rw [hkx] at hky; simp only [Option.some.injEq] at hky; subst hky; exact absurd rfl hg
      · have hky' := hget y ky e' hky
        rcases hlive y ky hky' e' hly with ⟨hl', _⟩ | hn
        · subst e
          rw [hgetb] at hkx; simp only [Option.some.injEq] at hkx; subst hkx
          exact hr.sep x y Lx Ly k ky hx hy hw.at_ hky' hl hl' hg
        · rw [hn] at hy; exact absurd hy (by simp)
    · have hkx' := hget x kx e hkx
      rcases hlive x kx hkx' e hlx with ⟨hl', _⟩ | hn
      · by_cases e' : y = b
        · subst e'
          rw [hgetb] at hky; simp only [Option.some.injEq] at hky; subst hky
          exact hr.sep x y Lx Ly kx k hx hy hkx' hw.at_ hl' hl hg
        · have hky' := hget y ky e' hky
          rcases hlive y ky hky' e' hly with ⟨hl'', _⟩ | hn
          · exact hr.sep x y Lx Ly kx ky hx hy hkx' hky' hl' hl'' hg
          · rw [hn] at hy; exact absurd hy (by simp)
      · rw [hn] at hx; exact absurd hx (by simp)
  · intro x y Lx Ly kx ky hx hy hkx hky hlx hly hg hblk
    by_cases e : x = b
    · by_cases e' : y = b
      · subst e; subst e'
        rw [hkx] at hky; simp only [Option.some.injEq] at hky; subst hky
        rw [hx] at hy; simp only [Option.some.injEq] at hy; subst hy; rfl
      · have hky' := hget y ky e' hky
        rcases hlive y ky hky' e' hly with ⟨hl', hne⟩ | hn
        · subst e
          rw [hgetb] at hkx; simp only [Option.some.injEq] at hkx; subst hkx
          exact absurd hg.symm hne
        · rw [hn] at hy; exact absurd hy (by simp)
    · have hkx' := hget x kx e hkx
      rcases hlive x kx hkx' e hlx with ⟨hl', hne⟩ | hn
      · by_cases e' : y = b
        · subst e'
          rw [hgetb] at hky; simp only [Option.some.injEq] at hky; subst hky
          exact absurd hg hne
        · have hky' := hget y ky e' hky
          rcases hlive y ky hky' e' hly with ⟨hl'', _⟩ | hn
          · exact hr.aln x y Lx Ly kx ky hx hy hkx' hky' hl' hl'' hg hblk
          · rw [hn] at hy; exact absurd hy (by simp)
      · rw [hn] at hx; exact absurd hx (by simp)
  · intro x Lx kx G hx hk hlx hG
    by_cases e : x = b
    · subst e
      rw [hgetb] at hk; simp only [Option.some.injEq] at hk; subst hk
      rcases hw.gr with ⟨hn, hg, _⟩ | ⟨G', hG', _, _, hg⟩
      · rw [hg] at hG; simp only [] at hG; rw [hn] at hG; exact absurd hG (by simp)
      · simp only [] at hG
        rw [hg, if_pos rfl] at hG; simp only [Option.some.injEq] at hG; subst hG
        have := hr.reach x L k G' hL hw.at_ hl hG'
        simp only []; omega
    · have hk' := hget x kx e hk
      rcases hlive x kx hk' e hlx with ⟨hl', hne⟩ | hn
      · refine hr.reach x Lx kx G hx hk' hl' ?_
        rcases hw.gr with ⟨_, hg, _⟩ | ⟨_, _, _, _, hg⟩
        · rw [hg] at hG; exact hG
        · rw [hg, if_neg hne] at hG; exact hG
      · rw [hn] at hx; exact absurd hx (by simp)
  · intro x kx G hk hG
    have key : ∀ kx', h.bl.get x = some kx' → kx'.g = kx.g → x ≤ G.last := by
      intro kx' hk' hgg
      rcases hw.gr with ⟨_, hg, _⟩ | ⟨G', hG', hlast, _, hg⟩
      · rw [hg] at hG; exact hr.last x kx' G hk' (hgg ▸ hG)
      · rw [hg] at hG
        by_cases e2 : kx.g = k.g
        · rw [if_pos e2] at hG; simp only [Option.some.injEq] at hG; subst hG
          exact hr.last x kx' G' hk' (by rw [hgg, e2]; exact hG')
        · rw [if_neg e2] at hG; exact hr.last x kx' G hk' (hgg ▸ hG)
    by_cases e : x = b
    · subst e
      rw [hgetb] at hk; simp only [Option.some.injEq] at hk; subst hk
      exact key k hw.at_ rfl
    · exact key kx (hget x kx e hk) rfl
  · intro x Lx kx hx hk hG
    by_cases e : x = b
    · subst e
      rw [hgetb] at hk; simp only [Option.some.injEq] at hk; subst hk
      rcases hw.gr with ⟨hn, hg, _⟩ | ⟨G', hG', _, _, hg⟩
      · exact hr.lone x L k hL hw.at_ hn
      · simp only [] at hG; rw [hg, if_pos rfl] at hG; exact absurd hG (by simp)
    · have hk' := hget x kx e hk
      refine hr.lone x Lx kx hx hk' ?_
      rcases hw.gr with ⟨_, hg, _⟩ | ⟨_, _, _, _, hg⟩
      · rw [hg] at hG; exact hG
      · rw [hg] at hG
        by_cases e2 : kx.g = k.g
        · rw [if_pos e2] at hG; exact absurd hG (by simp)
        · rw [if_neg e2] at hG; exact hG
  · intro x kx hk
    rw [hw.next]
    by_cases e : x = b
    · subst e
      rw [hgetb] at hk; simp only [Option.some.injEq] at hk; subst hk
      exact hr.grp x k hw.at_
    · exact hr.grp x kx (hget x kx e hk)
  · intro x kx hk
    rw [hw.next]
    by_cases e : x = b
    · subst e; exact hr.fresh x k hw.at_
    · exact hr.fresh x kx (hget x kx e hk)
  · intro g x hx
    rw [hw.next]
    rcases hw.gr with ⟨_, hg, _⟩ | ⟨G', hG', _, _, hg⟩
    · rw [hg] at hx; exact hr.grn g x hx
    · rw [hg] at hx
      by_cases e : g = k.g
      · subst e; exact hr.grn _ _ hG'
      · rw [if_neg e] at hx; exact hr.grn g x hx
structure Grew (h : H) (b : Nat) (k : Blk) (off m n : Nat) (d : Dat) (ty : Option (TypeId × Bool)) (h' : H) : Prop where
  next : h'.next = h.next + 1
  at_ : h.bl.get b = some k
  bl : ∀ j, h'.bl.get j = if j = h.next then some ⟨k.g, k.pos + off, m + n, d, ty⟩ else h.bl.get j
  gr : ∃ mv, (∀ j, h'.gr.get j = if j = k.g then some ⟨mv, k.pos + off + m + n, h.next⟩ else h.gr.get j) ∧
    ((mv = 0 ∧ h.gr.get k.g = none ∧ k.n ≤ off + m) ∨ (∃ G, h.gr.get k.g = some G ∧ mv = G.minv ∧ G.maxe ≤ k.pos + off + m) ∨ mv = h.next)
theorem Grew.live {B : Nat} {φ : Phi} {h h' : H} {w : World} {b off m n : Nat} {k : Blk} {d : Dat} {ty : Option (TypeId × Bool)} (hr : HR0 B φ h w) (hw : Grew h b k off m n d ty h') {x : Nat} {Lx : Loc} {kx : Blk}
    (hx : φ x = some Lx) (hk : h'.bl.get x = some kx) (hl : Live h' x kx) : h.bl.get x = some kx ∧ Live h x kx ∧ (kx.g = k.g → φ b ≠ none → kx.pos + kx.n ≤ k.pos + off + m) := by
  have hxn : x ≠ h.next := fun e => by have := (hr.dom x Lx hx).1; omega
  have hk' : h.bl.get x = some kx := by rw [hw.bl, if_neg hxn] at hk; exact hk
  obtain ⟨mv, hg, hc⟩ := hw.gr
  refine ⟨hk', ?_, ?_⟩
  · intro G hG
    by_cases e : kx.g = k.g
    · have := hl _ (by rw [e, hg, if_pos rfl])
      simp only [] at this
      rcases hc with ⟨h1, h2, h3⟩ | ⟨G', h1, h2, h3⟩ | h1
      · rw [e, h2] at hG; exact absurd hG (by simp)
      · rw [e, h1] at hG; simp only [Option.some.injEq] at hG; subst hG; omega
      · have := (hr.dom x Lx hx).1; omega
    · exact hl G (by rw [hg, if_neg e]; exact hG)
  · intro e hne
    have hl' := hl _ (by rw [e, hg, if_pos rfl])
    simp only [] at hl'
    rcases hc with ⟨h1, h2, h3⟩ | ⟨G', h1, h2, h3⟩ | h1
    · have ex := hr.lone x Lx kx hx hk' (e ▸ h2)
      have hxb : x = k.g := ex.trans e
      by_cases hxb' : x = b
      · subst hxb'
        rw [hw.at_] at hk'; simp only [Option.some.injEq] at hk'; subst hk'
        omega
      · cases hp : φ b with
        | none => exact absurd hp hne
        | some L =>
          have := hr.lone b L k hp hw.at_ h2
          omega
    · have hlx : Live h x kx := fun G hG => by
        rw [e, h1] at hG; simp only [Option.some.injEq] at hG; subst hG; omega
      have := hr.reach x Lx kx G' hx hk' hlx (e ▸ h1)
      omega
    · have := (hr.dom x Lx hx).1; omega
theorem HR0.grewU {B : Nat} {φ : Phi} {h h' : H} {w : World} {b off m n : Nat} {k : Blk} {d : Dat} {ty : Option (TypeId × Bool)} (hr : HR0 B φ h w) (hw : Grew h b k off m n d ty h') (hb : φ b ≠ none) : HR0 B φ h' w := by
  obtain ⟨mv, hg, hc⟩ := hw.gr
  have hn : ∀ x Lx kx, φ x = some Lx → h'.bl.get x = some kx → h.bl.get x = some kx := fun x Lx kx hx hk => by
    have hxn : x ≠ h.next := fun e => by have := (hr.dom x Lx hx).1; omega
    rw [hw.bl, if_neg hxn] at hk; exact hk
  have kg : k.g < h.next := hr.grp b k hw.at_
  refine ⟨hr.size, fun x Lx hx => ?_, ?_, ?_, ?_, ?_, ?_, ?_, ?_, ?_, ?_, fun x Lx kx el hx hk ht => hr.elt x Lx kx el hx (hn x Lx kx hx hk) ht⟩
  · have := hr.dom x Lx hx; rw [hw.next]; exact ⟨by omega, this.2⟩
  · intro x Lx kx hx hk hl
    have := hw.live hr hx hk hl
    exact hr.hold x Lx kx hx this.1 this.2.1
  · intro x y Lx Ly kx ky hx hy hkx hky hlx hly he
    have h1 := hw.live hr hx hkx hlx
    have h2 := hw.live hr hy hky hly
    exact hr.sep x y Lx Ly kx ky hx hy h1.1 h2.1 h1.2.1 h2.2.1 he
  · intro x y Lx Ly kx ky hx hy hkx hky hlx hly he
    have h1 := hw.live hr hx hkx hlx
    have h2 := hw.live hr hy hky hly
    exact hr.aln x y Lx Ly kx ky hx hy h1.1 h2.1 h1.2.1 h2.2.1 he
  · intro x Lx kx G hx hk hl hG
    have h1 := hw.live hr hx hk hl
    by_cases e : kx.g = k.g
    · rw [hg, if_pos e] at hG; simp only [Option.some.injEq] at hG; subst hG
      have := h1.2.2 e hb
      simp only []; omega
    · rw [hg, if_neg e] at hG; exact hr.reach x Lx kx G hx h1.1 h1.2.1 hG
  · intro x kx G hk hG
    by_cases e : kx.g = k.g
    · rw [hg, if_pos e] at hG; simp only [Option.some.injEq] at hG; subst hG
      simp only []
      by_cases ex : x = h.next
      · omega
      · rw [hw.bl, if_neg ex] at hk
        have := hr.fresh x kx hk; omega
    · rw [hg, if_neg e] at hG
      by_cases ex : x = h.next
      · rw [hw.bl, if_pos ex] at hk; simp only [Option.some.injEq] at hk; subst hk; exact absurd rfl e
      · rw [hw.bl, if_neg ex] at hk; exact hr.last x kx G hk hG
  · intro x Lx kx hx hk hG
    by_cases e : kx.g = k.g
    · rw [hg, if_pos e] at hG; exact absurd hG (by simp)
    · rw [hg, if_neg e] at hG; exact hr.lone x Lx kx hx (hn x Lx kx hx hk) hG
  · intro x kx hk
    rw [hw.next]
    by_cases ex : x = h.next
    · rw [hw.bl, if_pos ex] at hk; simp only [Option.some.injEq] at hk; subst hk; simp only []; omega
    · rw [hw.bl, if_neg ex] at hk; have := hr.grp x kx hk; omega
  · intro x kx hk
    rw [hw.next]
    by_cases ex : x = h.next
    · omega
    · rw [hw.bl, if_neg ex] at hk; have := hr.fresh x kx hk; omega
  · intro g x hx
    rw [hw.next]
    by_cases e : g = k.g
    · omega
    · rw [hg, if_neg e] at hx; have := hr.grn g x hx; omega
theorem Holds.above {φ : Phi} {w w' : World} {L : Loc} {n : Nat} {d : Dat} {c c' : Array Value} {elem : TypeId} {fr : Nat × Nat} (h : Holds φ w L n d)
    (h1 : w.heap[L.blk]? = some (.cells c elem fr)) (h2 : w'.heap[L.blk]? = some (.cells c' elem fr)) (hs : c'.size = c.size) (hc : ∀ i, i < L.base + n → c'[i]? = c[i]?) : Holds φ w' L n d := by
  cases d with
  | cells t =>
    obtain ⟨c0, e0, f0, a1, a2, a3, a4, a5⟩ := h
    rw [h1] at a1; simp only [Option.some.injEq, Obj.cells.injEq] at a1
    obtain ⟨rfl, rfl, rfl⟩ := a1
    exact ⟨c', elem, fr, h2, hs.trans a2, a3, a4, fun j v hj hv => by rw [hc _ (by omega)]; exact a5 j v hj hv⟩
  | bytes cd =>
    obtain ⟨c0, e0, f0, a1, a2, a3, a4, a5, a6⟩ := h
    rw [h1] at a1; simp only [Option.some.injEq, Obj.cells.injEq] at a1
    obtain ⟨rfl, rfl, rfl⟩ := a1
    refine ⟨c', elem, fr, h2, hs.trans a2, a3, a4, a5, ?_⟩
    rw [← a6]
    apply List.ext_getElem?
    intro i
    by_cases hi : i < n
    · rw [List.getElem?_take, List.getElem?_take, if_pos hi, if_pos hi, List.getElem?_drop, List.getElem?_drop, Array.getElem?_toList, Array.getElem?_toList]
      exact hc _ (by omega)
    · rw [List.getElem?_take, List.getElem?_take, if_neg hi, if_neg hi]
  | map es clock =>
    obtain ⟨xs, a1, _⟩ := h
    rw [h1] at a1; simp at a1
  | mit b since seen last =>
    obtain ⟨_, _, a1, _⟩ := h
    rw [h1] at a1; simp at a1
  | lrec Lp loc ps asg body st pend =>
    obtain ⟨_, a1, _⟩ := h
    rw [h1] at a1; simp at a1
theorem HR0.grewIn {B : Nat} {φ : Phi} {h h' : H} {w w' : World} {b off m n : Nat} {k : Blk} {d : Dat} {L : Loc} {c c' : Array Value} {elem : TypeId} {fr : Nat × Nat} {ty : Option (TypeId × Bool)} (hr : HR0 B φ h w)
    (hw : Grew h b k off m n d ty h') (hty : ∀ e, ty = some e → e.2 = false ∧ ∃ x, k.ty = some (e.1, x)) (hl : Live h b k) (hL : φ b = some L) (hs : w'.heap.size = w.heap.size) (ho : ∀ x, x ≠ L.blk → w'.heap[x]? = w.heap[x]?)
    (h1 : w.heap[L.blk]? = some (.cells c elem fr)) (h2 : w'.heap[L.blk]? = some (.cells c' elem fr)) (hcs : c'.size = c.size)
    (hc : ∀ i, i < L.base + off + m → c'[i]? = c[i]?) (hd : Holds φ w' ⟨L.blk, L.base + off, L.cs⟩ (m + n) d) :
    HR0 B (φ.put h.next ⟨L.blk, L.base + off, L.cs⟩) h' w' := by
  have hb : φ b ≠ none := by rw [hL]; simp
  have hu := hr.grewU hw hb
  have hnx : φ h.next = none := hr.unmapped (Nat.le_refl _)
  have hx : Ext φ (φ.put h.next ⟨L.blk, L.base + off, L.cs⟩) := Phi.ext_put hnx
  obtain ⟨mv, hg, hcc⟩ := hw.gr
  have hself : h'.bl.get h.next = some ⟨k.g, k.pos + off, m + n, d, ty⟩ := by rw [hw.bl, if_pos rfl]
  refine ⟨by rw [hs]; exact hr.size, ?_, ?_, ?_, ?_, ?_, hu.last, ?_, hu.grp, hu.fresh, hu.grn, ?_⟩
  rotate_right
  · intro x Lx kx el hLx hkx ht
    have key : ∃ c0 fr0, w.heap[Lx.blk]? = some (.cells c0 el.1 fr0) ∧ (el.2 = true → Lx.base = 0 ∧ c0.size = kx.n) := by
      by_cases e : x = h.next
      · subst e
        rw [Phi.put_self] at hLx; simp only [Option.some.injEq] at hLx; subst hLx
        rw [hself] at hkx; simp only [Option.some.injEq] at hkx; subst hkx
        obtain ⟨h0, y, hy⟩ := hty el ht
        obtain ⟨c0, fr0, hc0, _⟩ := hr.elt b L k _ hL hw.at_ hy
        exact ⟨c0, fr0, hc0, fun h => by rw [h0] at h; exact absurd h (by simp)⟩
      · rw [Phi.put_ne φ _ e] at hLx
        exact hu.elt x Lx kx el hLx hkx ht
    obtain ⟨c0, fr0, hc0, hone⟩ := key
    by_cases eb : Lx.blk = L.blk
    · rw [eb] at hc0 ⊢
      rw [h1] at hc0; simp only [Option.some.injEq, Obj.cells.injEq] at hc0
      obtain ⟨hcc, hee, _⟩ := hc0
      exact ⟨c', fr, by rw [h2, hee], fun h => ⟨(hone h).1, by rw [hcs, hcc]; exact (hone h).2⟩⟩
    · exact ⟨c0, fr0, by rw [ho _ eb]; exact hc0, hone⟩
  · intro x Lx hLx
    rw [hs]
    by_cases e : x = h.next
    · subst e
      rw [Phi.put_self] at hLx; simp only [Option.some.injEq] at hLx; subst hLx
      have := hr.dom b L hL
      rw [hw.next]; exact ⟨by omega, this.2⟩
    · rw [Phi.put_ne φ _ e] at hLx; exact hu.dom x Lx hLx
  · intro x Lx kx hLx hkx hlx
    by_cases e : x = h.next
    · subst e
      rw [Phi.put_self] at hLx; simp only [Option.some.injEq] at hLx; subst hLx
      rw [hself] at hkx; simp only [Option.some.injEq] at hkx; subst hkx
      exact hd.mono hx
    · rw [Phi.put_ne φ _ e] at hLx
      have hh := hw.live hr hLx hkx hlx
      have hold := hr.hold x Lx kx hLx hh.1 hh.2.1
      refine Holds.mono hx ?_
      by_cases eb : Lx.blk = L.blk
      · by_cases eg : kx.g = k.g
        · have h3 := hh.2.2 eg hb
          have h4 := hr.aln x b Lx L kx k hLx hL hh.1 hw.at_ hh.2.1 hl eg eb
          exact hold.above (eb ▸ h1) (eb ▸ h2) hcs fun i hi => hc i (by omega)
        · exact absurd eb (hr.sep x b Lx L kx k hLx hL hh.1 hw.at_ hh.2.1 hl eg)
      · exact hold.heap (ho _ eb)
  · intro x y Lx Ly kx ky hLx hLy hkx hky hlx hly he
    by_cases e : x = h.next
    · by_cases e' : y = h.next
      · subst e; subst e'; rw [hkx] at hky; simp only [Option.some.injEq] at hky; subst hky; exact absurd rfl he
      · subst e
        rw [Phi.put_self] at hLx; simp only [Option.some.injEq] at hLx; subst hLx
        rw [hself] at hkx; simp only [Option.some.injEq] at hkx; subst hkx
        rw [Phi.put_ne φ _ e'] at hLy
        have hh := hw.live hr hLy hky hly
        exact hr.sep b y L Ly k ky hL hLy hw.at_ hh.1 hl hh.2.1 he
    · rw [Phi.put_ne φ _ e] at hLx
      have hh := hw.live hr hLx hkx hlx
      by_cases e' : y = h.next
      · subst e'
        rw [Phi.put_self] at hLy; simp only [Option.some.injEq] at hLy; subst hLy
        rw [hself] at hky; simp only [Option.some.injEq] at hky; subst hky
        exact hr.sep x b Lx L kx k hLx hL hh.1 hw.at_ hh.2.1 hl he
      · rw [Phi.put_ne φ _ e'] at hLy
        exact hu.sep x y Lx Ly kx ky hLx hLy hkx hky hlx hly he
  · intro x y Lx Ly kx ky hLx hLy hkx hky hlx hly he hbk
    by_cases e : x = h.next
    · by_cases e' : y = h.next
      · subst e; subst e'; rw [hkx] at hky; simp only [Option.some.injEq] at hky; subst hky
        rw [hLx] at hLy; simp only [Option.some.injEq] at hLy; subst hLy; rfl
      · subst e
        rw [Phi.put_self] at hLx; simp only [Option.some.injEq] at hLx; subst hLx
        rw [hself] at hkx; simp only [Option.some.injEq] at hkx; subst hkx
        rw [Phi.put_ne φ _ e'] at hLy
        have hh := hw.live hr hLy hky hly
        have := hr.aln b y L Ly k ky hL hLy hw.at_ hh.1 hl hh.2.1 he hbk
        simp only []; omega
    · rw [Phi.put_ne φ _ e] at hLx
      have hh := hw.live hr hLx hkx hlx
      by_cases e' : y = h.next
      · subst e'
        rw [Phi.put_self] at hLy; simp only [Option.some.injEq] at hLy; subst hLy
        rw [hself] at hky; simp only [Option.some.injEq] at hky; subst hky
        have := hr.aln x b Lx L kx k hLx hL hh.1 hw.at_ hh.2.1 hl he hbk
        simp only []; omega
      · rw [Phi.put_ne φ _ e'] at hLy
        exact hu.aln x y Lx Ly kx ky hLx hLy hkx hky hlx hly he hbk
  · intro x Lx kx G hLx hkx hlx hG
    by_cases e : x = h.next
    · subst e
      rw [hself] at hkx; simp only [Option.some.injEq] at hkx; subst hkx
      simp only [] at hG
      rw [hg, if_pos rfl] at hG; simp only [Option.some.injEq] at hG; subst hG
      simp only []; omega
    · rw [Phi.put_ne φ _ e] at hLx; exact hu.reach x Lx kx G hLx hkx hlx hG
  · intro x Lx kx hLx hkx hG
    by_cases e : x = h.next
    · subst e
      rw [hself] at hkx; simp only [Option.some.injEq] at hkx; subst hkx
      simp only [] at hG
      rw [hg, if_pos rfl] at hG; exact absurd hG (by simp)
    · rw [Phi.put_ne φ _ e] at hLx; exact hu.lone x Lx kx hLx hkx hG
structure Bd where
  lo : Nat
  U : Nat → Option Blk
structure Below (B : Bd) (w w' : World) : Prop extends Go.RowKit.Below B.lo w w' where
  ded : ∀ (r : Nat) (ds : Option (List Deferred)), w.heap[r]? = some (Obj.deferred ds) → w'.heap[r]? = some (Obj.deferred ds)
theorem Below.refl (B : Bd) (w : World) : Below B w w := ⟨Go.RowKit.Below.refl B.lo w, fun _ _ h => h⟩
theorem Below.trans {B : Bd} {a b c : World} (h : Below B a b) (k : Below B b c) : Below B a c := ⟨h.toBelow.trans k.toBelow, fun r ds x => k.ded r ds (h.ded r ds x)⟩
structure HR (B : Bd) (φ : Phi) (h : H) (w : World) : Prop extends HR0 B.lo φ h w where
  res : ∀ b k, B.U b = some k → φ b = none ∧ h.bl.get b = some k ∧ h.gr.get b = none ∧ b < h.next
theorem HR.keep {B : Bd} {φ : Phi} {h : H} {w w' : World} (hr : HR B φ h w) (hs : w.heap.size ≤ w'.heap.size) (hb : ∀ k, k < w.heap.size → w'.heap[k]? = w.heap[k]?) : HR B φ h w' :=
  ⟨hr.toHR0.keep hs hb, hr.res⟩
theorem HR.unmapped {B : Bd} {φ : Phi} {h : H} {w : World} (hr : HR B φ h w) {b : Nat} (hb : h.next ≤ b) : φ b = none := hr.toHR0.unmapped hb
theorem HR.noU {B : Bd} {φ : Phi} {h : H} {w : World} (hr : HR B φ h w) {b : Nat} (hb : h.next ≤ b) : B.U b = none := by
  cases hu : B.U b with
  | none => rfl
  | some k => exact absurd (hr.res b k hu).2.2.2 (by omega)
theorem HR.added {B : Bd} {φ : Phi} {h h' : H} {w : World} {k : Blk} (hr : HR B φ h w) (ha : Added h k h') : HR B φ h' w :=
  ⟨hr.toHR0.added ha, fun b k' hu => by
    obtain ⟨h1, h2, h3, h4⟩ := hr.res b k' hu
    exact ⟨h1, by rw [ha.bl, if_neg (by omega)]; exact h2, by rw [ha.gr]; exact h3, by rw [ha.next]; omega⟩⟩
theorem HR.mapped {B : Bd} {φ : Phi} {h : H} {w w' : World} {b : Nat} {k : Blk} {o : Obj} {cs : Nat} (hr : HR B φ h w) (hU : B.U b = none) (hn : φ b = none)
    (hb : h.bl.get b = some k) (hre : ∀ G, h.gr.get k.g = some G → k.pos + k.n ≤ G.maxe) (hlo : h.gr.get k.g = none → b = k.g) (hw : w'.heap = w.heap.push o)
    (hty : ∀ e, k.ty = some e → ∃ c fr, o = .cells c e.1 fr ∧ (e.2 = true → c.size = k.n)) (hd : Holds φ w' ⟨w.heap.size, 0, cs⟩ k.n k.d) : HR B (φ.put b ⟨w.heap.size, 0, cs⟩) h w' :=
  ⟨hr.toHR0.mapped hn hb hre hlo hw hty hd, fun b' k' hu => by
    obtain ⟨h1, h2⟩ := hr.res b' k' hu
    exact ⟨by rw [Phi.put_ne φ _ (fun e => by rw [e, hU] at hu; simp at hu)]; exact h1, h2⟩⟩
theorem HR.noGrp {B : Bd} {φ : Phi} {h : H} {w : World} (hr : HR B φ h w) : h.gr.get h.next = none := hr.toHR0.noGrp
theorem HR.wrote {B : Bd} {φ : Phi} {h h' : H} {w w' : World} {b : Nat} {k : Blk} {L : Loc} {n : Nat} {d : Dat} (hr : HR B φ h w) (hw : Wrote h b k n d h') (hl : Live h b k)
    (hL : φ b = some L) (hs : w'.heap.size = w.heap.size) (ho : ∀ x, x ≠ L.blk → w'.heap[x]? = w.heap[x]?) (hel : ∀ c e fr, w.heap[L.blk]? = some (.cells c e fr) → ∃ c' fr', w'.heap[L.blk]? = some (.cells c' e fr') ∧ c'.size = c.size) (hd : Holds φ w' L n d) (hnn : n = k.n := by rfl) : HR B φ h' w' :=
  ⟨hr.toHR0.wrote hw hl hL hs ho hel hd hnn, fun b' k' hu => by
    obtain ⟨h1, h2, h3, h4⟩ := hr.res b' k' hu
    have hne : b' ≠ b := fun e => by rw [e, hL] at h1; simp at h1
    refine ⟨h1, by rw [hw.bl, if_neg hne]; exact h2, ?_, by rw [hw.next]; exact h4⟩
    rcases hw.gr with ⟨_, hg, _⟩ | ⟨G, hG, _, _, hg⟩
    · rw [hg]; exact h3
    · rw [hg]
      by_cases e : b' = k.g
      · rw [e, hG] at h3; simp at h3
      · rw [if_neg e]; exact h3⟩
theorem HR.resG {B : Bd} {φ : Phi} {h h' : H} {w : World} {b : Nat} {k : Blk} (hr : HR B φ h w) (hat : h.bl.get b = some k) (hb : φ b ≠ none) {b' : Nat} {k' : Blk} (hu : B.U b' = some k') : b' ≠ k.g := by
  obtain ⟨h1, h2, h3, h4⟩ := hr.res b' k' hu
  intro e
  cases hp : φ b with
  | none => exact hb hp
  | some L =>
    have := hr.lone b L k hp hat (e ▸ h3)
    rw [this, ← e, h1] at hp; simp at hp
theorem HR.resGrew {B : Bd} {φ φ' : Phi} {h h' : H} {w : World} {b off m n : Nat} {k : Blk} {d : Dat} {ty : Option (TypeId × Bool)} (hr : HR B φ h w) (hw : Grew h b k off m n d ty h') (hb : φ b ≠ none) (hφ : ∀ x, x ≠ h.next → φ' x = φ x) :
    ∀ b' k', B.U b' = some k' → φ' b' = none ∧ h'.bl.get b' = some k' ∧ h'.gr.get b' = none ∧ b' < h'.next := by
  intro b' k' hu
  obtain ⟨h1, h2, h3, h4⟩ := hr.res b' k' hu
  have hne : b' ≠ h.next := by omega
  obtain ⟨mv, hg, hc⟩ := hw.gr
  exact ⟨by rw [hφ _ hne]; exact h1, by rw [hw.bl, if_neg hne]; exact h2, by rw [hg, if_neg (hr.resG (h' := h') hw.at_ hb hu)]; exact h3, by rw [hw.next]; omega⟩
theorem HR.grewU {B : Bd} {φ : Phi} {h h' : H} {w : World} {b off m n : Nat} {k : Blk} {d : Dat} {ty : Option (TypeId × Bool)} (hr : HR B φ h w) (hw : Grew h b k off m n d ty h') (hb : φ b ≠ none) : HR B φ h' w :=
  ⟨hr.toHR0.grewU hw hb, hr.resGrew hw hb fun _ _ => rfl⟩
theorem HR.grewIn {B : Bd} {φ : Phi} {h h' : H} {w w' : World} {b off m n : Nat} {k : Blk} {d : Dat} {L : Loc} {c c' : Array Value} {elem : TypeId} {fr : Nat × Nat} {ty : Option (TypeId × Bool)} (hr : HR B φ h w)
    (hw : Grew h b k off m n d ty h') (hty : ∀ e, ty = some e → e.2 = false ∧ ∃ x, k.ty = some (e.1, x)) (hl : Live h b k) (hL : φ b = some L) (hs : w'.heap.size = w.heap.size) (ho : ∀ x, x ≠ L.blk → w'.heap[x]? = w.heap[x]?)
    (h1 : w.heap[L.blk]? = some (.cells c elem fr)) (h2 : w'.heap[L.blk]? = some (.cells c' elem fr)) (hcs : c'.size = c.size)
    (hc : ∀ i, i < L.base + off + m → c'[i]? = c[i]?) (hd : Holds φ w' ⟨L.blk, L.base + off, L.cs⟩ (m + n) d) :
    HR B (φ.put h.next ⟨L.blk, L.base + off, L.cs⟩) h' w' :=
  ⟨hr.toHR0.grewIn hw hty hl hL hs ho h1 h2 hcs hc hd, hr.resGrew hw (by rw [hL]; simp) fun x hx => Phi.put_ne φ _ hx⟩
theorem HR.less {B : Bd} {U : Nat → Option Blk} {φ : Phi} {h : H} {w : World} (hr : HR B φ h w) (hU : ∀ b k, U b = some k → B.U b = some k) : HR ⟨B.lo, U⟩ φ h w := ⟨hr.toHR0, fun b k hu => hr.res b k (hU b k hu)⟩
theorem HR.kept {B : Bd} {φ : Phi} {h h' : H} {w : World} {k : Blk} (hr : HR B φ h w) (ha : Added h k h') : HR ⟨B.lo, fun b => if b = h.next then some k else B.U b⟩ φ h' w :=
  ⟨(hr.added ha).toHR0, fun b k' hu => by
    by_cases e : b = h.next
    · simp only [e, if_true, Option.some.injEq] at hu; subst hu
      exact ⟨by rw [e]; exact hr.unmapped (Nat.le_refl _), by rw [ha.bl, if_pos e], by rw [e, ha.gr]; exact hr.noGrp, by rw [ha.next]; omega⟩
    · simp only [if_neg e] at hu
      exact (hr.added ha).res b k' hu⟩
theorem Below.lo {B B' : Bd} {w w' : World} (h : Below B w w') (e : B'.lo = B.lo) : Below B' w w' := ⟨by rw [e]; exact h.toBelow, h.ded⟩
end Go.Ev
end
section
namespace Go.Ev
abbrev Rd := List V → H → (V → Bool) → Bool
def RdSound (P : Program) (op : Op) (f : Rd) : Prop :=
  ∀ (o : Oper), o.op = op → ∀ B φ h w ρ vs K, HR B φ h w → VRs φ vs (op.operands.toList.map ρ) → f vs h K = true →
    ∃ v x, (execOp ρ o).run P w = .ok (.value x) w ∧ VR φ v x ∧ K v = true
theorem VRs.one {φ : Phi} {v : V} {xs : List Value} (h : VRs φ [v] xs) : ∃ x, xs = [x] ∧ VR φ v x := by
  cases h with | cons a t => cases t; exact ⟨_, rfl, a⟩
theorem VRs.two {φ : Phi} {v u : V} {xs : List Value} (h : VRs φ [v, u] xs) : ∃ x y, xs = [x, y] ∧ VR φ v x ∧ VR φ u y := by
  cases h with | cons a t => cases t with | cons b t => cases t; exact ⟨_, _, rfl, a, b⟩
theorem VRs.three {φ : Phi} {v u t : V} {xs : List Value} (h : VRs φ [v, u, t] xs) : ∃ x y z, xs = [x, y, z] ∧ VR φ v x ∧ VR φ u y ∧ VR φ t z := by
  cases h with | cons a t => cases t with | cons b t => cases t with | cons c t => cases t; exact ⟨_, _, _, rfl, a, b, c⟩
theorem VR.bool_inv {φ : Phi} {b : Bool} {x : Value} (h : VR φ (.bool b) x) : x = .bool b := by cases h; rfl
theorem VR.int_inv {φ : Phi} {k : IntKind} {n : Int} {x : Value} (h : VR φ (.int k n) x) : x = .int k n := by cases h; rfl
theorem VR.str_inv {φ : Phi} {n c : Nat} {x : Value} (h : VR φ (.str n c) x) : ∃ s : ByteArray, x = .string s ∧ s.data.toList = dec n c ∧ c < 256 ^ n := by
  cases h with | str a b => exact ⟨_, rfl, a, b⟩
def lim : IntKind → Nat
  | .i8 => 128 | .i16 => 32768 | .i32 => 2147483648 | .i64 => 9223372036854775808
  | .u8 => 256 | .u16 => 65536 | .u32 => 4294967296 | .u64 => 18446744073709551616
theorem blt_iff {a b : Nat} : Nat.blt a b = true ↔ a < b := by rw [Nat.blt_eq]
def wr (k : IntKind) (n : Int) : Int :=
  match n with
  | .ofNat m => bif Nat.blt m (lim k) then .ofNat m else (match k with
    | .u8 => .ofNat (m % 256) | .u16 => .ofNat (m % 65536) | .u32 => .ofNat (m % 4294967296) | .u64 => .ofNat (m % 18446744073709551616)
    | k => k.wrap (.ofNat m))
  | .negSucc m => (match k with
    | .i64 => bif Nat.blt m (lim .i64) then .negSucc m else IntKind.wrap .i64 (.negSucc m)
    | k => k.wrap (.negSucc m))
theorem wrap_small (k : IntKind) (m : Nat) (h : m < lim k) : k.wrap (m : Int) = m := by
  cases k <;> simp [IntKind.wrap, IntKind.bits, IntKind.signed, lim] at * <;> omega
theorem wr_eq (k : IntKind) (n : Int) : wr k n = k.wrap n := by
  cases n with
  | ofNat m =>
    simp only [wr]
    by_cases h : m < lim k
    · rw [show Nat.blt m (lim k) = true from blt_iff.2 h]
      exact (wrap_small k m h).symm
    · rw [show Nat.blt m (lim k) = false from by rw [Bool.eq_false_iff]; exact fun e => h (blt_iff.1 e)]
      simp only [cond_false]
      cases k <;> simp [IntKind.wrap, IntKind.bits, IntKind.signed]
  | negSucc m =>
    simp only [wr]
    cases k
    case i64 =>
      by_cases h : m < lim .i64
      · rw [show Nat.blt m (lim .i64) = true from blt_iff.2 h]
        have h' : m < 2 ^ 63 := h
        rw [cond_true, Int.negSucc_eq]
        have e := IntWalk.i64_in (-((m : Int) + 1)) (by omega)
        exact e.symm
      · rw [show Nat.blt m (lim .i64) = false from by rw [Bool.eq_false_iff]; exact fun e => h (blt_iff.1 e)]
        exact cond_false _ _
    all_goals (with_reducible rfl)
def iLt : Int → Int → Bool
  | .ofNat a, .ofNat b => Nat.blt a b
  | a, b => decide (a < b)
theorem iLt_eq (a b : Int) : iLt a b = decide (a < b) := by
  unfold iLt
  split
  · rename_i a b
    rw [Bool.eq_iff_iff]; simp [Nat.blt_eq]
  · rfl
def iEq : Int → Int → Bool
  | .ofNat a, .ofNat b => Nat.beq a b
  | a, b => a == b
theorem iEq_eq (a b : Int) : iEq a b = (a == b) := by
  unfold iEq
  split
  · rename_i a b
    rw [Bool.eq_iff_iff]; simp; omega
  · rfl
noncomputable def boolK (b : Bool) (K : Bool → Bool) : Bool := Bool.rec (motive := fun _ => Bool) (K false) (K true) b
theorem boolK_eq (b : Bool) (K : Bool → Bool) : boolK b K = K b := by cases b <;> rfl
noncomputable def fInt (op : BinOp) (k : IntKind) (a b : Int) (K : V → Bool) : Bool :=
  match op with
  | .add => intK (wr k (a + b)) fun z => K (.int k z)
  | .sub => intK (wr k (a - b)) fun z => K (.int k z)
  | .mul => intK (wr k (a * b)) fun z => K (.int k z)
  | .quo => (match a, b with | .ofNat a, .ofNat (b + 1) => intK (wr k (.ofNat (a / (b + 1)))) fun z => K (.int k z) | _, _ => false)
  | .rem => (match a, b with | .ofNat a, .ofNat (b + 1) => natK (a % (b + 1)) fun z => K (.int k (.ofNat z)) | _, _ => false)
  | .and => (match a, b with | .ofNat a, .ofNat b => bif Nat.blt a (lim k) && Nat.blt b (lim k) then natK (Nat.land a b) fun z => K (.int k (.ofNat z)) else false | _, _ => false)
  | .or => (match a, b with | .ofNat a, .ofNat b => bif Nat.blt a (lim k) && Nat.blt b (lim k) then natK (Nat.lor a b) fun z => K (.int k (.ofNat z)) else false | _, _ => false)
  | .xor => (match a, b with | .ofNat a, .ofNat b => bif Nat.blt a (lim k) && Nat.blt b (lim k) then natK (Nat.xor a b) fun z => K (.int k (.ofNat z)) else false | _, _ => false)
  | .eql => boolK (iEq a b) fun z => K (.bool z)
  | .neq => boolK (!iEq a b) fun z => K (.bool z)
  | .lss => boolK (iLt a b) fun z => K (.bool z)
  | .leq => boolK (!iLt b a) fun z => K (.bool z)
  | .gtr => boolK (iLt b a) fun z => K (.bool z)
  | .geq => boolK (!iLt a b) fun z => K (.bool z)
  | _ => false
theorem lim_bits (k : IntKind) : lim k ≤ 2 ^ k.bits := by cases k <;> decide
theorem lim_pow (k : IntKind) : ∃ n, lim k = 2 ^ n := by cases k <;> first | exact ⟨7, rfl⟩ | exact ⟨15, rfl⟩ | exact ⟨31, rfl⟩ | exact ⟨63, rfl⟩ | exact ⟨8, rfl⟩ | exact ⟨16, rfl⟩ | exact ⟨32, rfl⟩ | exact ⟨64, rfl⟩
theorem ofInt_small (k : IntKind) (a : Nat) (h : a < lim k) : (BitVec.ofInt k.bits (Int.ofNat a)).toNat = a := by
  have := lim_bits k
  rw [show Int.ofNat a = ((a : Nat) : Int) from rfl, BitVec.ofInt_natCast, BitVec.toNat_ofNat]
  exact Nat.mod_eq_of_lt (by omega)
def intSem (op : BinOp) (k : IntKind) (a b : Int) : Sem Value :=
  match op with
  | .add | .sub | .mul => Op.intArith op k a b
  | .quo | .rem => Op.intDiv op k a b
  | .and | .or | .xor | .andNot => Op.intBits op k a b
  | _ => Op.intCmp op a b
theorem fInt_sound {P : Program} {w : World} {op : BinOp} {k : IntKind} {a b : Int} {K : V → Bool} (h : fInt op k a b K = true) :
    ∃ v x, (intSem op k a b).run P w = .ok x w ∧ (∀ φ, VR φ v x) ∧ K v = true := by
  cases op <;> simp only [fInt, intK_eq, boolK_eq, natK_eq, wr_eq, iLt_eq, iEq_eq] at h
  case add => exact ⟨_, _, rfl, fun φ => .int _ _, h⟩
  case sub => exact ⟨_, _, rfl, fun φ => .int _ _, h⟩
  case mul => exact ⟨_, _, rfl, fun φ => .int _ _, h⟩
  case quo =>
    split at h
    · rename_i a b
      refine ⟨_, _, ?_, fun φ => .int _ _, h⟩
      simp only [intSem, Op.intDiv]
      rw [if_neg (by simp; omega)]
      rfl
    · exact absurd h (by simp)
  case rem =>
    split at h
    · rename_i a b
      refine ⟨_, _, ?_, fun φ => .int _ _, h⟩
      simp only [intSem, Op.intDiv]
      rw [if_neg (by simp; omega)]
      rfl
    · exact absurd h (by simp)
  case eql => exact ⟨_, _, rfl, fun φ => .bool _, h⟩
  case neq => exact ⟨_, _, rfl, fun φ => .bool _, h⟩
  case lss => exact ⟨_, _, rfl, fun φ => .bool _, h⟩
  case leq =>
    refine ⟨_, _, rfl, fun φ => .bool _, ?_⟩
    have : decide (a ≤ b) = !decide (b < a) := by rw [Bool.eq_iff_iff]; simp
    rw [this]; exact h
  case gtr => exact ⟨_, _, rfl, fun φ => .bool _, h⟩
  case geq =>
    refine ⟨_, _, rfl, fun φ => .bool _, ?_⟩
    have : decide (a ≥ b) = !decide (a < b) := by rw [Bool.eq_iff_iff]; simp
    rw [this]; exact h
  case shl | shr | andNot => exact absurd h (by simp)
  case and | or | xor =>
    split at h
    · rename_i a b
      simp only [Bool.cond_eq_ite, Bool.and_eq_true, Nat.blt_eq] at h
      split at h
      · rename_i hab
        obtain ⟨n, hn⟩ := lim_pow k
        refine ⟨_, _, rfl, fun φ => ?_, h⟩
        simp only [BitVec.toNat_and, BitVec.toNat_or, BitVec.toNat_xor]
        rw [ofInt_small k a hab.1, ofInt_small k b hab.2]
        rw [wrap_small k _ (by
          rw [hn] at hab ⊢
          first | exact Nat.and_lt_two_pow _ hab.2 | exact Nat.or_lt_two_pow hab.1 hab.2 | exact Nat.xor_lt_two_pow hab.1 hab.2)]
        exact .int _ _
      · exact absurd h (by simp)
    · exact absurd h (by simp)
end Go.Ev
end
