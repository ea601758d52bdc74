/- Part of the proof that card_holds ends in: an evaluator of closed runs over abstract memories, and that what it says holds of the model. -/
import Derived.Test.YtkobceanlhlmcaaGreatDoorA09
import Derived.Lib.Bytealg
import Derived.Laws.LoneSync
import Derived.Lib.MakeNoZero
set_option linter.all false
section
namespace Go.Ev
def ExOk (P : Program) (e : Array Value → Sem Value) (g : Ex) : Prop :=
  ∀ vs h K, g vs h K = true → ∀ B φ w (args : Array Value), HR B φ h w → VRs φ vs args.toList → ∃ x w', (e args).run P w = .ok x w' ∧ Post B φ w K (.returned x) w'
theorem Post.same {B : Bd} {φ : Phi} {h : H} {w : World} {K : V → H → Bool} {v : V} {x : Value} (hr : HR B φ h w) (hv : VR φ v x) (hk : K v h = true) : Post B φ w K (.returned x) w :=
  ⟨v, h, φ, x, rfl, Ext.refl φ, hv, hr, Below.refl _ _, hk⟩
theorem args_one {φ : Phi} {v : V} {args : Array Value} (h : VRs φ [v] args.toList) : ∃ x, args = #[x] ∧ VR φ v x := by
  obtain ⟨x, e, hx⟩ := h.one
  exact ⟨x, by rw [← Array.toArray_toList (xs := args), e], hx⟩
theorem args_two {φ : Phi} {v u : V} {args : Array Value} (h : VRs φ [v, u] args.toList) : ∃ x y, args = #[x, y] ∧ VR φ v x ∧ VR φ u y := by
  obtain ⟨x, y, e, hx⟩ := h.two
  exact ⟨x, y, by rw [← Array.toArray_toList (xs := args), e], hx⟩
theorem args_three {φ : Phi} {v u t : V} {args : Array Value} (h : VRs φ [v, u, t] args.toList) : ∃ x y z, args = #[x, y, z] ∧ VR φ v x ∧ VR φ u y ∧ VR φ t z := by
  obtain ⟨x, y, z, e, hx⟩ := h.three
  exact ⟨x, y, z, by rw [← Array.toArray_toList (xs := args), e], hx⟩
theorem args_nil {φ : Phi} {args : Array Value} (h : VRs φ [] args.toList) : args = #[] := by
  cases hl : args.toList with
  | nil => rw [← Array.toArray_toList (xs := args), hl]
  | cons a l => rw [hl] at h; cases h
theorem dec_snoc (n c : Nat) : dec (n + 1) c = dec n (c / 256) ++ [UInt8.ofNat (c % 256)] := by
  rw [dec_split n 1, Nat.pow_one]
  simp [dec]
noncomputable def cntK (b : Nat) (K : Nat → Bool) (n : Nat) : Nat → Nat → Bool :=
  Nat.rec (motive := fun _ => Nat → Nat → Bool) (fun _ acc => K acc) (fun _ ih c acc => natK (Nat.div c 256) fun c' => Bool.rec (motive := fun _ => Bool) (ih c' acc) (natK (Nat.succ acc) fun acc => ih c' acc) (Nat.beq (Nat.mod c 256) b)) n
theorem cntK_eq (b : Nat) (hb : b < 256) (K : Nat → Bool) : ∀ (n c acc : Nat), cntK b K n c acc = K (acc + Lib.countByte (dec n c) (UInt8.ofNat b))
  | 0, c, acc => rfl
  | n + 1, c, acc => by
    have e : cntK b K (n + 1) c acc = natK (Nat.div c 256) fun c' => Bool.rec (motive := fun _ => Bool) (cntK b K n c' acc) (natK (Nat.succ acc) fun acc => cntK b K n c' acc) (Nat.beq (Nat.mod c 256) b) := rfl
    rw [e, natK_eq, dec_snoc]
    unfold Lib.countByte
    rw [List.count_append]
    have hd : Nat.div c 256 = c / 256 := rfl
    have hm : Nat.mod c 256 = c % 256 := rfl
    rw [hd, hm]
    have hi := cntK_eq b hb K n (c / 256)
    unfold Lib.countByte at hi
    cases hq : Nat.beq (c % 256) b with
    | true =>
      have := Nat.eq_of_beq_eq_true hq
      simp only [natK_eq, hi]
      rw [this]
      simp [List.count_cons]
      congr 1; omega
    | false =>
      simp only [hi]
      have hne : ¬ (UInt8.ofNat (c % 256) == UInt8.ofNat b) = true := by
        intro h
        have h := congrArg UInt8.toNat (eq_of_beq h)
        simp only [UInt8.toNat_ofNat'] at h
        rw [Nat.mod_eq_of_lt (show c % 256 < 2 ^ 8 from Nat.mod_lt _ (by decide)), Nat.mod_eq_of_lt (show b < 2 ^ 8 from hb)] at h
        rw [h] at hq; simp at hq
      rw [List.count_cons, List.count_nil, if_neg hne]
      simp
noncomputable def exCount : Ex := fun vs h K => l2 vs fun x y => strA x fun n c => byteK y fun b => cntK b (fun m => K (.int .i64 (.ofNat m)) h) n c 0
theorem strA_true {v : V} {K : Nat → Nat → Bool} (h : strA v K = true) : ∃ n c, v = .str n c ∧ K n c = true := by
  cases v <;> first | exact ⟨_, _, rfl, h⟩ | exact absurd (show false = true from h) (by simp)
theorem exCount_ok {P : Program} : ExOk P Extern.BytealgCount.count exCount := by
  intro vs h K hk B φ w args hr hv
  unfold exCount at hk
  obtain ⟨x, y, rfl, hk1⟩ := l2_true hk
  obtain ⟨n, c, rfl, hk2⟩ := strA_true hk1
  obtain ⟨b, rfl, hb, hk3, _⟩ := byteK_true hk2
  rw [cntK_eq b hb, Nat.zero_add] at hk3
  obtain ⟨p, q, rfl, hp, hq⟩ := args_two hv
  obtain ⟨s, rfl, hs, hc⟩ := hp.str_inv
  have := hq.int_inv; subst this
  refine ⟨_, w, Lib.run_countString s _ w, Post.same hr (.int _ _) ?_⟩
  rw [hs]
  exact hk3
noncomputable def idxK (b : Nat) (n c : Nat) (Z : Bool) (K : Nat → Bool) (r : Nat) : Bool :=
  Nat.rec (motive := fun _ => Bool) Z (fun r ih => Bool.rec (motive := fun _ => Bool) ih (natK (Nat.sub n (Nat.succ r)) K) (Nat.beq (Nat.mod (Nat.shiftRight c (Nat.mul 8 r)) 256) b)) r
theorem dec_cons (n c : Nat) : dec (n + 1) c = UInt8.ofNat (c / 256 ^ n) :: dec n c := by
  rw [← dec_mod n c]; rfl
theorem idxK_eq (b : Nat) (hb : b < 256) (n c : Nat) (Z : Bool) (K : Nat → Bool) : ∀ r, r ≤ n → idxK b n c Z K r = (if Lib.indexByte (dec r c) (UInt8.ofNat b) = -1 then Z else K (n - r + (Lib.indexByte (dec r c) (UInt8.ofNat b)).toNat))
  | 0, _ => by
    show Z = _
    simp [dec, Lib.indexByte]
  | r + 1, hr => by
    have e : idxK b n c Z K (r + 1) = Bool.rec (motive := fun _ => Bool) (idxK b n c Z K r) (natK (Nat.sub n (Nat.succ r)) K) (Nat.beq (Nat.mod (Nat.shiftRight c (Nat.mul 8 r)) 256) b) := rfl
    rw [e, dec_cons, show Nat.shiftRight c (Nat.mul 8 r) = c / 256 ^ r from shr_eq c r]
    have hm : ∀ a, Nat.mod a 256 = a % 256 := fun _ => rfl
    rw [hm]
    have hge := Lib.indexByte_ge (dec r c) (UInt8.ofNat b)
    unfold Lib.indexByte
    cases hq : Nat.beq (c / 256 ^ r % 256) b with
    | true =>
      have := Nat.eq_of_beq_eq_true hq
      have h1 : (UInt8.ofNat (c / 256 ^ r) == UInt8.ofNat b) = true := by
        rw [beq_iff_eq]; apply UInt8.toNat_inj.1; simp only [UInt8.toNat_ofNat']; rw [show (2 : Nat) ^ 8 = 256 from rfl, this]; exact (Nat.mod_eq_of_lt hb).symm
      rw [if_pos h1]
      simp only [natK_eq]
      rw [if_neg (by decide)]
      congr 1
    | false =>
      have h1 : ¬ (UInt8.ofNat (c / 256 ^ r) == UInt8.ofNat b) = true := by
        intro h
        have h := congrArg UInt8.toNat (eq_of_beq h)
        simp only [UInt8.toNat_ofNat'] at h
        rw [show (2 : Nat) ^ 8 = 256 from rfl, Nat.mod_eq_of_lt hb] at h
        rw [h] at hq; simp at hq
      rw [if_neg h1]
      simp only [idxK_eq b hb n c Z K r (by omega)]
      by_cases h2 : Lib.indexByte (dec r c) (UInt8.ofNat b) = -1
      · simp [h2]
      · rw [if_neg h2]
        have h3 : ¬ (Lib.indexByte (dec r c) (UInt8.ofNat b) == -1) = true := by simpa using h2
        rw [if_neg h3, if_neg (by omega)]
        congr 1
        omega
noncomputable def exIndexByte : Ex := fun vs h K => l2 vs fun x y => strA x fun n c => byteK y fun b => idxK b n c (K (.int .i64 (.negSucc 0)) h) (fun i => K (.int .i64 (.ofNat i)) h) n
theorem exIndexByte_ok {P : Program} : ExOk P Extern.BytealgIndexByte.indexByte exIndexByte := by
  intro vs h K hk B φ w args hr hv
  unfold exIndexByte at hk
  obtain ⟨x, y, rfl, hk1⟩ := l2_true hk
  obtain ⟨n, c, rfl, hk2⟩ := strA_true hk1
  obtain ⟨b, rfl, hb, hk3, _⟩ := byteK_true hk2
  rw [idxK_eq b hb n c _ _ n (Nat.le_refl _)] at hk3
  obtain ⟨p, q, rfl, hp, hq⟩ := args_two hv
  obtain ⟨s, rfl, hs, hc⟩ := hp.str_inv
  have := hq.int_inv; subst this
  refine ⟨_, w, Lib.run_indexByteString s _ w, ?_⟩
  rw [hs]
  have hge := Lib.indexByte_ge (dec n c) (UInt8.ofNat b)
  have e : (Int.ofNat b).toNat.toUInt8 = UInt8.ofNat b := rfl
  rw [e]
  split at hk3
  · rename_i h1
    rw [h1]
    exact Post.same hr (.int _ _) hk3
  · rename_i h1
    rw [Nat.sub_self, Nat.zero_add] at hk3
    have : Lib.indexByte (dec n c) (UInt8.ofNat b) = Int.ofNat (Lib.indexByte (dec n c) (UInt8.ofNat b)).toNat := by
      have := Int.toNat_of_nonneg (show 0 ≤ Lib.indexByte (dec n c) (UInt8.ofNat b) by omega)
      exact this.symm
    rw [this]
    exact Post.same hr (.int _ _) hk3
theorem compareBytes_less : ∀ (a b : List UInt8), Lib.compareBytes a b = if Op.bytesLess a b then -1 else if a == b then 0 else 1
  | [], [] => rfl
  | [], _ :: _ => rfl
  | _ :: _, [] => rfl
  | x :: a, y :: b => by
    simp only [Lib.compareBytes, Op.bytesLess, compareBytes_less a b]
    by_cases h1 : x < y
    · simp [h1]
    · by_cases h2 : y < x
      · have : ¬ x = y := fun e => by subst e; exact h1 h2
        simp [h1, h2, this]
      · have : x = y := by
          apply UInt8.toNat_inj.1
          have h1 : ¬ x.toNat < y.toNat := h1
          have h2 : ¬ y.toNat < x.toNat := h2
          omega
        subst this
        simp [h1]
noncomputable def exCompare : Ex := fun vs h K => l2 vs fun x y => strA x fun n a => strA y fun m b =>
  Bool.rec (motive := fun _ => Bool) (Bool.rec (motive := fun _ => Bool) (K (.int .i64 (.ofNat 1)) h) (K (.int .i64 (.ofNat 0)) h) (Nat.beq n m && Nat.beq a b)) (K (.int .i64 (.negSucc 0)) h) (sLt n a m b)
theorem exCompare_ok {P : Program} : ExOk P Extern.BytealgCompare.compare exCompare := by
  intro vs h K hk B φ w args hr hv
  unfold exCompare at hk
  obtain ⟨x, y, rfl, hk1⟩ := l2_true hk
  obtain ⟨n, a, rfl, hk2⟩ := strA_true hk1
  obtain ⟨m, b, rfl, hk3⟩ := strA_true hk2
  obtain ⟨p, q, rfl, hp, hq⟩ := args_two hv
  obtain ⟨s, rfl, hs, ha⟩ := hp.str_inv
  obtain ⟨t, rfl, ht, hb⟩ := hq.str_inv
  refine ⟨_, w, Lib.run_compareString s t w, ?_⟩
  rw [hs, ht, compareBytes_less]
  rw [sLt_eq n a m b ha hb] at hk3
  cases h1 : Op.bytesLess (dec n a) (dec m b) with
  | true => rw [h1] at hk3; rw [if_pos rfl]; exact Post.same hr (.int _ _) hk3
  | false =>
    rw [h1] at hk3
    rw [if_neg (by simp), dec_eq n m a b ha hb]
    cases h2 : (Nat.beq n m && Nat.beq a b) with
    | true => rw [h2] at hk3; exact Post.same hr (.int _ _) hk3
    | false => rw [h2] at hk3; exact Post.same hr (.int _ _) hk3
noncomputable def exAdd64 : Ex := fun vs h K => l3 vs fun x y z => intA x fun kx a => natA a fun a => intA y fun ky b => natA b fun b => intA z fun kz c => natA c fun c =>
  bif kEq kx .u64 && kEq ky .u64 && kEq kz .u64 && Nat.ble c 1 then natK (Nat.mod (a + b + c) 18446744073709551616) fun lo => natK (Nat.div (a + b + c) 18446744073709551616) fun hi => K (.tup [.int .u64 (.ofNat lo), .int .u64 (.ofNat hi)]) h else false
theorem l3_true {vs : List V} {K : V → V → V → Bool} (h : l3 vs K = true) : ∃ x y z, vs = [x, y, z] ∧ K x y z = true := by
  rw [l3_eq] at h
  split at h
  · exact ⟨_, _, _, rfl, h⟩
  · exact absurd h (by simp)
theorem kEq_true {k k' : IntKind} (h : kEq k k' = true) : k = k' := kix_inj (by rw [← kEq_eq]; exact h)
theorem exAdd64_ok {P : Program} : ExOk P add64Entry exAdd64 := by
  intro vs h K hk B φ w args hr hv
  unfold exAdd64 at hk
  obtain ⟨x, y, z, rfl, hk1⟩ := l3_true hk
  obtain ⟨kx, a, rfl, hk2⟩ := intA_true hk1
  obtain ⟨a, rfl, hk3⟩ := natA_true hk2
  obtain ⟨ky, b, rfl, hk4⟩ := intA_true hk3
  obtain ⟨b, rfl, hk5⟩ := natA_true hk4
  obtain ⟨kz, c, rfl, hk6⟩ := intA_true hk5
  obtain ⟨c, rfl, hk7⟩ := natA_true hk6
  obtain ⟨h1, hk8⟩ := bif_true hk7
  simp only [Bool.and_eq_true] at h1
  obtain ⟨⟨⟨h1, h2⟩, h3⟩, h4⟩ := h1
  have h1 := kEq_true h1; have h2 := kEq_true h2; have h3 := kEq_true h3; have h4 := ble_of h4
  subst h1; subst h2; subst h3
  obtain ⟨p, q, r, rfl, hp, hq, hr'⟩ := args_three hv
  have := hp.int_inv; subst this
  have := hq.int_inv; subst this
  have := hr'.int_inv; subst this
  rw [natK_eq, natK_eq] at hk8
  refine ⟨_, w, run_add64 (Int.ofNat a) (Int.ofNat b) (Int.ofNat c) (by simp) (by simp) (by simp) (by simp; omega) w, ?_⟩
  refine Post.same hr (v := .tup [.int .u64 (.ofNat (Nat.mod (a + b + c) 18446744073709551616)), .int .u64 (.ofNat (Nat.div (a + b + c) 18446744073709551616))]) (.tup (.cons ?_ (.cons ?_ .nil))) hk8
  · have : (Int.ofNat a + Int.ofNat b + Int.ofNat c) % 18446744073709551616 = Int.ofNat (Nat.mod (a + b + c) 18446744073709551616) := rfl
    rw [this]; exact .int _ _
  · have : (Int.ofNat a + Int.ofNat b + Int.ofNat c) / 18446744073709551616 = Int.ofNat (Nat.div (a + b + c) 18446744073709551616) := rfl
    rw [this]; exact .int _ _
noncomputable def exSame : Ex := fun vs h K => l1 vs fun v => K v h
theorem exSame_ok {P : Program} : ExOk P Extern.AbiNoEscape.same exSame := by
  intro vs h K hk B φ w args hr hv
  obtain ⟨v, rfl, hk1⟩ := l1_true hk
  obtain ⟨x, rfl, hx⟩ := args_one hv
  exact ⟨x, w, rfl, Post.same hr hx hk1⟩
noncomputable def exMark : Ex := fun vs h K => l1 vs fun v => match v with | .ptr _ _ => K (.tup []) h | _ => false
theorem exMark_ok {P : Program} (m : Addr → Mark) : ExOk P (Extern.Race.marked m) exMark := by
  intro vs h K hk B φ w args hr hv
  obtain ⟨v, rfl, hk1⟩ := l1_true hk
  obtain ⟨x, rfl, hx⟩ := args_one hv
  split at hk1
  · obtain ⟨L, hL, rfl⟩ := hx.ptr_inv
    exact ⟨.tuple #[], w, rfl, Post.same hr (.tup .nil) hk1⟩
  · exact absurd hk1 (by simp)
noncomputable def exNothing : Ex := fun vs h K => l0 vs (K (.tup []) h)
theorem exMark0_ok {P : Program} (m : Mark) : ExOk P (fun _ => do mark m; pure Extern.Race.none_) exNothing := by
  intro vs h K hk B φ w args hr hv
  exact ⟨.tuple #[], w, rfl, Post.same hr (.tup .nil) (by
    unfold exNothing l0 at hk
    cases vs with
    | nil => exact hk
    | cons a l => exact absurd (show false = true from hk) (by simp))⟩
end Go.Ev
end
section
namespace Go.Ev
theorem ptrA_true {v : V} {K : Nat → Nat → Bool} (h : ptrA v K = true) : ∃ b o, v = .ptr b o ∧ K b o = true := by
  cases v <;> first | exact ⟨_, _, rfl, h⟩ | exact absurd (show false = true from h) (by simp)
noncomputable def cellK (h : H) (b off : Nat) (K : V → Bool) : Bool := blkK h b fun k => bif Nat.blt off k.n then datK k.n k.d off K else false
theorem cellK_sound {B : Bd} {φ : Phi} {h : H} {w : World} {b off : Nat} {L : Loc} {K : V → Bool} (hr : HR B φ h w) (hL : φ b = some L) (hk : cellK h b off K = true) :
    ∃ v x, w.cell? ⟨L.blk, L.base + off, none⟩ = some x ∧ VR φ v x ∧ K v = true := by
  obtain ⟨k, hb, hl, h1⟩ := blkK_true hk
  obtain ⟨h2, h3⟩ := bif_true h1
  exact datK_sound (hr.hold b L k hL hb hl) (blt_iff.1 h2) h3
theorem run_store_mode {P : Program} {w w' : World} {a : Addr} {v u : Value} (m : Mode) (hv : v.oneCell' = true) (hc : w.cell? a = some u) (h : (storeCells a [v]).run P w = .ok () w') : (store a v m).run P w = .ok () w' := by
  have e : storeCells a [v] = (do store (a.add 0) v; pure ()) := rfl
  have ha : a.add 0 = a := by unfold Addr.add; split <;> simp_all
  rw [e, ha] at h
  simp only [Sem.run_bind] at h
  rw [run_store P w a v _ hv] at h ⊢
  rw [hc] at h ⊢
  simp only [] at h ⊢
  split at h
  · simp [Result.andThen] at h
  · rename_i hf
    rw [if_neg hf]
    simpa [Result.andThen] using h
noncomputable def exLoad (k : IntKind) : Ex := fun vs h K => l1 vs fun x => ptrA x fun b off => cellK h b off fun v => intA v fun k' n => condK (kEq k' k) (K (.int k n) h) false
theorem exLoad_ok {P : Program} (k : IntKind) : ExOk P (Extern.Atomic.loadT (.int k)) (exLoad k) := by
  intro vs h K hk B φ w args hr hv
  obtain ⟨v, rfl, hk1⟩ := l1_true hk
  obtain ⟨b, off, rfl, hk2⟩ := ptrA_true hk1
  obtain ⟨x, rfl, hx⟩ := args_one hv
  obtain ⟨L, hL, rfl⟩ := hx.ptr_inv
  obtain ⟨u, y, h1, h2, h3⟩ := cellK_sound hr hL hk2
  obtain ⟨k', n, rfl, h4⟩ := intA_true h3
  obtain ⟨h5, h6⟩ := condK_tt h4
  have := kEq_true h5; subst this
  have := h2.int_inv; subst this
  refine ⟨.int k' n, w, ?_, Post.same hr (.int _ _) h6⟩
  change Sem.run P (do Extern.Atomic.read (.int k') (← asAddr (.pointer (some ⟨L.blk, L.base + off, none⟩)))) w = _
  simp [Extern.Atomic.read, asAddr, h1]
noncomputable def exStore : Ex := fun vs h K => l2 vs fun x y => ptrA x fun b off => intA y fun k n => cellK h b off fun _ => putK h b off [.int k n] fun h' => K (.tup []) h'
theorem exStore_ok {P : Program} : ExOk P Extern.Atomic.storeT exStore := by
  intro vs h K hk B φ w args hr hv
  obtain ⟨v, u, rfl, hk1⟩ := l2_true hk
  obtain ⟨b, off, rfl, hk2⟩ := ptrA_true hk1
  obtain ⟨k, n, rfl, hk3⟩ := intA_true hk2
  obtain ⟨x, y, rfl, hx, hy⟩ := args_two hv
  obtain ⟨L, hL, rfl⟩ := hx.ptr_inv
  have := hy.int_inv; subst this
  obtain ⟨u, z, h1, h2, h3⟩ := cellK_sound hr hL hk3
  obtain ⟨h', w', g1, g2, g3, g4⟩ := putK_sound (P := P) hr hL (.cons hy .nil) h3
  refine ⟨.tuple #[], w', ?_, ⟨_, h', φ, _, rfl, Ext.refl φ, .tup .nil, g2, g3, g4⟩⟩
  have g5 := run_store_mode .atomic rfl h1 g1
  change Sem.run P (do
    store (← asAddr (.pointer (some ⟨L.blk, L.base + off, none⟩))) (.int k n) .atomic
    pure Extern.Atomic.none_) w = _
  simp only [asAddr, Sem.run_bind, Sem.run_pure, Result.andThen_ok, g5]
  rfl
noncomputable def exAdd (k : IntKind) : Ex := fun vs h K => l2 vs fun x y => ptrA x fun b off => intA y fun ky m => cellK h b off fun v => intA v fun kx n => condK (kEq kx k) (condK (kEq ky k) (intK (wr k (n + m)) fun s => putK h b off [.int k s] fun h' => K (.int k s) h') false) false
theorem exAdd_ok {P : Program} (k : IntKind) : ExOk P (Extern.Atomic.update (Op.intArith .add) k true) (exAdd k) := by
  intro vs h K hk B φ w args hr hv
  obtain ⟨v, u, rfl, hk1⟩ := l2_true hk
  obtain ⟨b, off, rfl, hk2⟩ := ptrA_true hk1
  obtain ⟨ky, m, rfl, hk3⟩ := intA_true hk2
  obtain ⟨x, y, rfl, hx, hy⟩ := args_two hv
  obtain ⟨L, hL, rfl⟩ := hx.ptr_inv
  have := hy.int_inv; subst this
  obtain ⟨u, z, h1, h2, h3⟩ := cellK_sound hr hL hk3
  obtain ⟨kx, n, rfl, h4⟩ := intA_true h3
  obtain ⟨h5, h6⟩ := condK_tt h4
  obtain ⟨h7, h8⟩ := condK_tt h6
  have := kEq_true h5; subst this
  have := kEq_true h7; subst this
  have := h2.int_inv; subst this
  rw [intK_eq] at h8
  obtain ⟨h', w', g1, g2, g3, g4⟩ := putK_sound (P := P) hr hL (.cons (.int ky (wr ky (n + m))) .nil) h8
  refine ⟨.int ky (wr ky (n + m)), w', ?_, ⟨_, h', φ, _, rfl, Ext.refl φ, .int _ _, g2, g3, g4⟩⟩
  have g5 := run_store_mode .atomic rfl h1 g1
  have hs : (Op.intArith .add ky n m).run P w = .ok (.int ky (wr ky (n + m))) w := by
    rw [wr_eq]; rfl
  change Sem.run P (do
    let a' ← asAddr (.pointer (some ⟨L.blk, L.base + off, none⟩))
    let old ← Extern.Atomic.read (.int ky) a'
    let new ← Op.intArith .add ky (← asInt old) (← asInt (.int ky m))
    store a' new .atomic
    pure (if true = true then new else old)) w = _
  have hrd : (Extern.Atomic.read (.int ky) ⟨L.blk, L.base + off, none⟩).run P w = .ok (.int ky n) w := by simp [Extern.Atomic.read, h1]
  simp only [asAddr, asInt, asIntOf, Sem.run_bind, Sem.run_pure, Result.andThen_ok, hrd, hs, g5, if_true]
noncomputable def exCas (k : IntKind) : Ex := fun vs h K => l3 vs fun x y z => ptrA x fun b off => intA y fun ky o => intA z fun kz m => cellK h b off fun v => intA v fun kx n => condK (kEq kx k) (condK (kEq ky k) (condK (kEq kz k)
  (Bool.rec (motive := fun _ => Bool) (putK h b off [.int k n] fun _ => K (.bool false) h) (putK h b off [.int k m] fun h' => K (.bool true) h') (iEq n o)) false) false) false
theorem putK_free {B : Bd} {φ : Phi} {h : H} {w : World} {b off : Nat} {v : V} {L : Loc} {K : H → Bool} (hr : HR B φ h w) (hL : φ b = some L) (hk : putK h b off [v] K = true) : w.frozen? ⟨L.blk, L.base + off, none⟩ = false := by
  unfold putK at hk
  obtain ⟨k, hb, hl, hk⟩ := blkK_true hk
  rw [lenK_eq, Nat.zero_add] at hk
  obtain ⟨h1, h2⟩ := bif_true hk
  obtain ⟨h1, h3⟩ := Bool.and_eq_true_iff.1 h1
  have h1 : k.d.isMap = false := by simpa using h1
  have h3 := ble_of h3
  obtain ⟨c, elem, fr, g1, g2, g3, g4⟩ := (hr.hold b L k hL hb hl).cells h1
  simp at h3
  exact frozen_of g1 (g3 _ (by omega))
theorem exCas_ok {P : Program} (k : IntKind) : ExOk P (Extern.Atomic.casT (.int k)) (exCas k) := by
  intro vs h K hk B φ w args hr hv
  obtain ⟨v, u, t, rfl, hk1⟩ := l3_true hk
  obtain ⟨b, off, rfl, hk2⟩ := ptrA_true hk1
  obtain ⟨ky, o, rfl, hk3⟩ := intA_true hk2
  obtain ⟨kz, m, rfl, hk4⟩ := intA_true hk3
  obtain ⟨x, y, z, rfl, hx, hy, hz⟩ := args_three hv
  obtain ⟨L, hL, rfl⟩ := hx.ptr_inv
  have := hy.int_inv; subst this
  have := hz.int_inv; subst this
  obtain ⟨u, z, h1, h2, h3⟩ := cellK_sound hr hL hk4
  obtain ⟨kx, n, rfl, h4⟩ := intA_true h3
  obtain ⟨h5, h6⟩ := condK_tt h4
  obtain ⟨h7, h8⟩ := condK_tt h6
  obtain ⟨h9, h10⟩ := condK_tt h8
  have := kEq_true h5; subst this
  have := kEq_true h7; subst this
  have := kEq_true h9; subst this
  have := h2.int_inv; subst this
  have hrd : (Extern.Atomic.read (.int kz) ⟨L.blk, L.base + off, none⟩).run P w = .ok (.int kz n) w := by simp [Extern.Atomic.read, h1]
  have hfz : w.frozen? ⟨L.blk, L.base + off, none⟩ = false := by
    cases hq : iEq n o with
    | true => rw [hq] at h10; exact putK_free hr hL h10
    | false => rw [hq] at h10; exact putK_free hr hL h10
  have htf : (Extern.Atomic.touchesFrozen ⟨L.blk, L.base + off, none⟩).run P w = .ok false w := by
    simp [Extern.Atomic.touchesFrozen, viewAt, World.shape?_isSome_of_cell? h1, hfz]
  rw [iEq_eq] at h10
  change ∃ x w', Sem.run P (do
    let a' ← asAddr (.pointer (some ⟨L.blk, L.base + off, none⟩))
    if ← Extern.Atomic.touchesFrozen a' then unsupported (.unsafePointer "a write to bytes that a string shares")
    let eq ← match Extern.Atomic.T.int kz, ← Extern.Atomic.read (.int kz) a', Value.int kz o with
      | _, .int _ x, .int _ y => pure (x == y)
      | .ptr, .pointer x, .pointer y => samePointer x y
      | .int _, .pointer (some _), .int _ 0 | .int _, .int _ 0, .pointer (some _) => pure false
      | .int _, .pointer (some _), _ | .int _, _, .pointer (some _) => unsupported .addressObserved
      | _, _, _ => stuck "atomic.CompareAndSwap: old is no T"
    if eq then store a' (.int kz m) .atomic
    pure (Value.bool eq)) w = .ok x w' ∧ _
  cases hq : (n == o) with
  | true =>
    rw [hq] at h10
    obtain ⟨h', w', g1, g2, g3, g4⟩ := putK_sound (P := P) hr hL (.cons (.int kz m) .nil) h10
    have g5 := run_store_mode .atomic rfl h1 g1
    refine ⟨.bool true, w', ?_, ⟨_, h', φ, _, rfl, Ext.refl φ, .bool _, g2, g3, g4⟩⟩
    simp only [asAddr, Sem.run_bind, Sem.run_pure, Result.andThen_ok, htf, hrd, hq, Bool.false_eq_true, if_false, if_true, g5]
  | false =>
    rw [hq] at h10
    obtain ⟨h', w', g1, g2, g3, g4⟩ := putK_sound (P := P) hr hL (.cons (.int kz n) .nil) h10
    refine ⟨.bool false, w, ?_, Post.same hr (.bool _) g4⟩
    simp only [asAddr, Sem.run_bind, Sem.run_pure, Result.andThen_ok, htf, hrd, hq, Bool.false_eq_true, if_false, if_true]
end Go.Ev
end
section
namespace Go.Ev
theorem Post.added {B : Bd} {φ : Phi} {h h' : H} {w w' : World} {k : Blk} {o : Obj} {cs : Nat} {K : V → H → Bool} {v : V} {x : Value} (hr : HR B φ h w) (ha : Added h k h')
    (hty : ∀ e, k.ty = some e → ∃ c fr, o = .cells c e.1 fr ∧ (e.2 = true → c.size = k.n)) (hh : w'.heap = w.heap.push o) (ho : w'.os = w.os) (ht : w'.tape = w.tape) (hu : w'.output = w.output) (hd : Holds φ w' ⟨w.heap.size, 0, cs⟩ k.n k.d)
    (hv : VR (φ.put h.next ⟨w.heap.size, 0, cs⟩) v x) (hk : K v h' = true) : Post B φ w K (.returned x) w' := by
  have hn : φ h.next = none := hr.unmapped (Nat.le_refl _)
  have hg : h'.gr.get k.g = none := by rw [ha.gr, ha.g]; exact hr.noGrp
  refine ⟨v, h', φ.put h.next ⟨w.heap.size, 0, cs⟩, x, rfl, Phi.ext_put hn, hv, ?_, Below.of_push hr.size hh ho ht hu, hk⟩
  exact (hr.added ha).mapped (hr.noU (Nat.le_refl _)) hn ha.at_ (fun G hG => by rw [hg] at hG; exact absurd hG (by simp)) (fun _ => ha.g.symm) hh hty hd
noncomputable def exMakeNoZero (e : TypeId) : Ex := fun vs h K => l1 vs fun x => intA x fun k n => natA n fun n => condK (kEq k .i64) (condK (Nat.ble n 1000000) (addK h n (.cells .nil) (some (e, false)) fun h' => K (.slice h.next 0 n 1 none) h') false) false
theorem exMakeNoZero_ok {P : Program} {ps : Array TypeId} {t e : TypeId} (ht : P.underlying t = some (.slice e)) : ExOk P (Extern.BytealgMakeNoZero.makeNoZero ps #[t]) (exMakeNoZero e) := by
  intro vs h K hk B φ w args hr hv
  obtain ⟨v, rfl, hk1⟩ := l1_true hk
  obtain ⟨k, n, rfl, hk2⟩ := intA_true hk1
  obtain ⟨n, rfl, hk3⟩ := natA_true hk2
  obtain ⟨h1, hk4⟩ := condK_tt hk3
  obtain ⟨h2, hk5⟩ := condK_tt hk4
  have := kEq_true h1; subst this
  have h2 := ble_of h2
  obtain ⟨x, rfl, hx⟩ := args_one hv
  have := hx.int_inv; subst this
  obtain ⟨h', ha, hk6⟩ := addK_true hk5
  obtain ⟨cs, g1, g2, g3⟩ := Lib.run_makeNoZero (P := P) w ps t e ht n (by omega)
  refine ⟨_, _, g1, Post.added (cs := cs.size) (o := .cells cs e) hr ha (fun e' he => ⟨cs, (0, 0), by simp only [Option.some.injEq] at he; rw [← he], fun h1 => by simp only [Option.some.injEq] at he; rw [← he] at h1; exact absurd h1 (by simp)⟩) rfl rfl rfl rfl ?_ ?_ hk6⟩
  · exact ⟨cs, e, (0, 0), by show (w.heap.push _)[w.heap.size]? = _; simp, rfl, open00 _, by simp; omega, fun j v hj hv => by rw [T.get_nil] at hv; exact absurd hv (by simp)⟩
  · have := VR.slice (φ := φ.put h.next ⟨w.heap.size, 0, cs.size⟩) (b := h.next) (off := 0) (len := n) (e := 1) (cap := cs.size) (oc := none) (Phi.put_self _ _ _) (by simp) g2 (fun c hc => absurd hc (by simp))
    simpa using this
noncomputable def ifaceA (v : V) : (TypeId → V → Bool) → Bool := fun K => match v with | .iface t v => K t v | _ => false
noncomputable def exClone : Ex := fun vs h K => l1 vs fun x => match x with
  | .iface t (.map b) => blkK h b fun k => (match k.d with | .map es clock => addK h 0 (.map es clock) none fun h' => K (.iface t (.map h.next)) h' | _ => false)
  | _ => false
theorem VR.iface_inv {φ : Phi} {t : TypeId} {v : V} {x : Value} (h : VR φ (.iface t v) x) : ∃ y, x = .iface t y ∧ VR φ v y := by cases h with | iface h => exact ⟨_, rfl, h⟩
theorem exClone_ok {P : Program} : ExOk P Extern.MapsClone.clone exClone := by
  intro vs h K hk B φ w args hr hv
  obtain ⟨v, rfl, hk1⟩ := l1_true hk
  split at hk1
  · rename_i t b
    obtain ⟨x, rfl, hx⟩ := args_one hv
    obtain ⟨y, rfl, hy⟩ := hx.iface_inv
    obtain ⟨L, hL, rfl⟩ := hy.map_inv
    obtain ⟨k, hb, hl, hk2⟩ := blkK_true hk1
    have hh := hr.hold b L k hL hb hl
    split at hk2
    · rename_i es clock hd
      rw [hd] at hh
      obtain ⟨xs, h1, h2⟩ := hh
      obtain ⟨h', ha, hk3⟩ := addK_true hk2
      refine ⟨.iface t (.map (some w.heap.size)), { w with heap := w.heap.push (.map xs clock) }, ?_, Post.added (cs := 0) (o := .map xs clock) hr ha (fun e he => absurd he (by simp)) rfl rfl rfl rfl ?_ ?_ hk3⟩
      · change Sem.run P (do
          let .map entries clock ← getObj L.blk | stuck "maps.clone: a map expected"
          pure (Value.iface t (.map (some (← newObj (.map entries clock)))))) w = _
        simp only [Sem.run_bind, run_getObj h1, Result.andThen_ok, run_newObj, Sem.run_pure]
      · exact ⟨xs, by simp, h2⟩
      · exact .iface (.map (Phi.put_self _ _ _))
    · exact absurd hk2 (by simp)
  · exact absurd hk1 (by simp)
end Go.Ev
end
section
namespace Go.Ev
def hEmp : H := ⟨0, .nil, .nil⟩
def freeU : Nat → Option Blk := fun _ => none
theorem HR.empty (w : World) : HR ⟨w.heap.size, freeU⟩ (fun _ => none) hEmp w := by
  refine ⟨⟨Nat.le_refl _, ?_, ?_, ?_, ?_, ?_, ?_, ?_, ?_, ?_, ?_, ?_⟩, ?_⟩
  all_goals first
    | (intros; simp_all [hEmp, T.get_nil]; done)
    | (intro b k hu; simp [freeU] at hu)
theorem Below.old {B : Bd} {w w' : World} (hB : B.lo ≤ w.heap.size) (h : Below ⟨w.heap.size, freeU⟩ w w') : Below B w w' :=
  ⟨⟨h.os, h.tape, h.output, h.size, fun k hk => h.block k (Nat.lt_of_lt_of_le hk hB)⟩, h.ded⟩
theorem HR.old {B : Bd} {φ : Phi} {h : H} {w w' : World} (hr : HR B φ h w) (hb : Below ⟨w.heap.size, freeU⟩ w w') : HR B φ h w' := hr.keep hb.size fun k hk => hb.block k hk
noncomputable def flatV : Nat → V → Bool
  | 0, _ => false
  | n + 1, .bool _ => true
  | n + 1, .int _ _ => true
  | n + 1, .str _ _ => true
  | n + 1, .agg l => flatL n l
  | n + 1, .tup l => flatL n l
  | n + 1, .nils => true
  | n + 1, .nilp => true
  | _, _ => false
where flatL : Nat → List V → Bool
  | 0, _ => false
  | n + 1, [] => true
  | n + 1, a :: l => flatV n a && flatL n l
theorem flat_rel : ∀ n, (∀ v, flatV n v = true → ∀ φ φ' x, VR φ v x → VR φ' v x) ∧ (∀ l, flatV.flatL n l = true → ∀ φ φ' xs, VRs φ l xs → VRs φ' l xs) := by
  intro n
  induction n with
  | zero => exact ⟨fun v h => absurd h (by simp [flatV]), fun l h => absurd h (by simp [flatV.flatL])⟩
  | succ n ih =>
    obtain ⟨ih1, ih2⟩ := ih
    constructor
    · intro v h φ φ' x hx
      cases hx with
      | bool b => exact .bool b
      | int k z => exact .int k z
      | str h1 h2 => exact .str h1 h2
      | agg h1 => exact .agg (ih2 _ (by simpa [flatV] using h) φ φ' _ h1)
      | tup h1 => exact .tup (ih2 _ (by simpa [flatV] using h) φ φ' _ h1)
      | nils => exact .nils
      | nilp => exact .nilp
      | _ => exact absurd h (by simp [flatV])
    · intro l h φ φ' xs hx
      cases hx with
      | nil => exact .nil
      | cons h1 h2 =>
        simp only [flatV.flatL, Bool.and_eq_true] at h
        exact .cons (ih1 _ h.1 φ φ' _ h1) (ih2 _ h.2 φ φ' _ h2)
noncomputable def isV (v : V) : V → H → Bool := fun u _ => eqVf 1000 u v
theorem closed_ok {P : Program} {C : CallH} (hC : CallOk P C) {f : FuncId} (hne : f ≠ YLD) {us : List V} {v : V} (hu : flatV.flatL 1000 us = true) (hv : flatV 1000 v = true) (hrun : C f us hEmp (isV v) = true) {h : H} {K : V → H → Bool} (hk : K v h = true)
    {B : Bd} {φ : Phi} {w : World} {args : Array Value} (hr : HR B φ h w) (ha : VRs φ us args.toList) :
    ((callFunc f args).run P w = .ok (.enter f args) w ∧ Calls P f args w (Post B φ w K)) ∨ ∃ x w', (callFunc f args).run P w = .ok (.value x) w' ∧ Post B φ w K (.returned x) w' := by
  have key : ∀ e w', Post ⟨w.heap.size, freeU⟩ (fun _ => none) w (isV v) e w' → Post B φ w K e w' := by
    rintro e w' ⟨u, h', φ', x, he, _, h1, _, h2, h3⟩
    have := (eqVf_true 1000).1 _ _ h3
    subst this
    exact ⟨u, h, φ, x, he, Ext.refl φ, (flat_rel 1000).1 _ hv φ' φ x h1, hr.old h2, h2.old hr.size, hk⟩
  rcases hC.fn f us hEmp _ hne hrun ⟨w.heap.size, freeU⟩ (fun _ => none) w args (HR.empty w) ((flat_rel 1000).2 _ hu φ _ _ ha) with ⟨h1, h2⟩ | ⟨x, w', h1, h2⟩
  · exact .inl ⟨h1, h2.mono fun e w' => key e w'⟩
  · exact .inr ⟨x, w', h1, key _ _ h2⟩
end Go.Ev
end
section
namespace Go.Ev
theorem HR0.mappedAt {B : Nat} {φ : Phi} {h : H} {w : World} {b g cs : Nat} {k : Blk} (hr : HR0 B φ h w) (hn : φ b = none)
    (hb : h.bl.get b = some k) (hre : ∀ G, h.gr.get k.g = some G → k.pos + k.n ≤ G.maxe) (hlo : h.gr.get k.g = none → b = k.g) (hB : B ≤ g) (hg : g < w.heap.size) (hne : ∀ x L, φ x = some L → L.blk ≠ g)
    (hty : ∀ e, k.ty = some e → ∃ c fr, w.heap[g]? = some (.cells c e.1 fr) ∧ (e.2 = true → c.size = k.n)) (hd : Holds φ w ⟨g, 0, cs⟩ k.n k.d) : HR0 B (φ.put b ⟨g, 0, cs⟩) h w := by
  have hx : Ext φ (φ.put b ⟨g, 0, cs⟩) := Phi.ext_put hn
  refine ⟨hr.size, ?_, ?_, ?_, ?_, ?_, hr.last, ?_, hr.grp, hr.fresh, hr.grn, ?_⟩
  rotate_right
  · intro x L k' el hL hk' ht
    by_cases e : x = b
    · subst e
      rw [Phi.put_self] at hL
      simp only [Option.some.injEq] at hL; subst hL
      rw [hb] at hk'; simp only [Option.some.injEq] at hk'; subst hk'
      obtain ⟨c, fr, h0, h1⟩ := hty el ht
      exact ⟨c, fr, h0, fun h => ⟨rfl, h1 h⟩⟩
    · rw [Phi.put_ne φ _ e] at hL; exact hr.elt x L k' el hL hk' ht
  · intro x L hL
    by_cases e : x = b
    · subst e
      rw [Phi.put_self] at hL
      simp only [Option.some.injEq] at hL; subst hL
      exact ⟨hr.fresh _ _ hb, hB, hg⟩
    · rw [Phi.put_ne φ _ e] at hL; exact hr.dom x L hL
  · intro x L k' hL hk' hl
    by_cases e : x = b
    · subst e
      rw [Phi.put_self] at hL
      simp only [Option.some.injEq] at hL; subst hL
      rw [hb] at hk'; simp only [Option.some.injEq] at hk'; subst hk'
      exact hd.mono hx
    · rw [Phi.put_ne φ _ e] at hL; exact (hr.hold x L k' hL hk' hl).mono hx
  · intro x y L L' k1 k2 h1 h2 h3 h4 h5 h6 h7
    by_cases e : x = b
    · by_cases e' : y = b
      · subst e; subst e'
        rw [h3] at h4; simp only [Option.some.injEq] at h4; subst h4
        exact absurd rfl h7
      · rw [Phi.put_ne φ _ e'] at h2
        subst e
        rw [Phi.put_self] at h1
        simp only [Option.some.injEq] at h1; subst h1
        exact (hne y L' h2).symm
    · rw [Phi.put_ne φ _ e] at h1
      by_cases e' : y = b
      · subst e'
        rw [Phi.put_self] at h2
        simp only [Option.some.injEq] at h2; subst h2
        exact hne x L h1
      · rw [Phi.put_ne φ _ e'] at h2
        exact hr.sep x y L L' k1 k2 h1 h2 h3 h4 h5 h6 h7
  · intro x y L L' k1 k2 h1 h2 h3 h4 h5 h6 h7 h8
    by_cases e : x = b
    · by_cases e' : y = b
      · subst e; subst e'
        rw [h3] at h4; simp only [Option.some.injEq] at h4; subst h4
        rw [h1] at h2; simp only [Option.some.injEq] at h2; subst h2
        rfl
      · rw [Phi.put_ne φ _ e'] at h2
        subst e
        rw [Phi.put_self] at h1
        simp only [Option.some.injEq] at h1; subst h1
        exact absurd h8.symm (hne y L' h2)
    · rw [Phi.put_ne φ _ e] at h1
      by_cases e' : y = b
      · subst e'
        rw [Phi.put_self] at h2
        simp only [Option.some.injEq] at h2; subst h2
        exact absurd h8 (hne x L h1)
      · rw [Phi.put_ne φ _ e'] at h2
        exact hr.aln x y L L' k1 k2 h1 h2 h3 h4 h5 h6 h7 h8
  · intro x L k1 G h1 h2 h3 h4
    by_cases e : x = b
    · subst e
      rw [hb] at h2; simp only [Option.some.injEq] at h2; subst h2
      exact hre G h4
    · rw [Phi.put_ne φ _ e] at h1; exact hr.reach x L k1 G h1 h2 h3 h4
  · intro x L k1 h1 h2 h3
    by_cases e : x = b
    · subst e
      rw [hb] at h2; simp only [Option.some.injEq] at h2; subst h2
      exact hlo h3
    · rw [Phi.put_ne φ _ e] at h1; exact hr.lone x L k1 h1 h2 h3
theorem HR.newAt {B : Bd} {φ : Phi} {h h' : H} {w w' : World} {k : Blk} {g cs : Nat} (hr : HR B φ h w) (ha : Added h k h') (hs : w.heap.size ≤ w'.heap.size) (hb : ∀ j, j < w.heap.size → w'.heap[j]? = w.heap[j]?)
    (hg : w.heap.size ≤ g) (hg' : g < w'.heap.size) (hty : ∀ e, k.ty = some e → ∃ c fr, w'.heap[g]? = some (.cells c e.1 fr) ∧ (e.2 = true → c.size = k.n)) (hd : Holds φ w' ⟨g, 0, cs⟩ k.n k.d) : HR B (φ.put h.next ⟨g, 0, cs⟩) h' w' := by
  have hk := (hr.keep hs hb).added ha
  have hgr : h'.gr.get k.g = none := by rw [ha.gr, ha.g]; exact hr.noGrp
  refine ⟨hk.toHR0.mappedAt (hr.unmapped (Nat.le_refl _)) ha.at_ (fun G hG => by rw [hgr] at hG; exact absurd hG (by simp)) (fun _ => ha.g.symm) (Nat.le_trans hr.size hg) hg' (fun x L hx => ?_) hty hd, fun b k' hu => ?_⟩
  · have := (hr.dom x L hx).2.2; omega
  · obtain ⟨h1, h2⟩ := hk.res b k' hu
    refine ⟨?_, h2⟩
    have : b ≠ h.next := fun e => by rw [e, hr.noU (Nat.le_refl _)] at hu; simp at hu
    rw [Phi.put_ne φ _ this]; exact h1
end Go.Ev
end
section
namespace Go.Ev
noncomputable def byteNm (x : Nat) : Bool := (Nat.ble 97 x && Nat.ble x 122) || (Nat.ble 48 x && Nat.ble x 57) || Nat.beq x 45 || Nat.beq x 95 || Nat.beq x 46
noncomputable def allNm (n : Nat) : Nat → Bool := Nat.rec (motive := fun _ => Nat → Bool) (fun _ => true) (fun _ ih c => bif byteNm (Nat.mod c 256) then ih (Nat.div c 256) else false) n
noncomputable def nameB (n c : Nat) : Bool := bif Nat.blt 0 n && Nat.ble n 12 && !(Nat.beq n 1 && Nat.beq c 46) && !(Nat.beq n 2 && Nat.beq c 11822) then allNm n c else false
noncomputable def exName : Ex := fun vs h K => l1 vs fun x => strA x fun n c => boolK (nameB n c) fun b => K (.bool b) h
end Go.Ev
end
section
namespace Go.Ev
noncomputable def exSlow (P : Program) (fuel lk ld un st : Nat) (C : CallH) : Ex := fun vs h K => l2 vs fun o fv => ptrA o fun b off =>
  C lk [.ptr b (off + 1)] h fun _ h => C ld [.ptr b off] h fun v h => boolV v fun t =>
    Bool.rec (motive := fun _ => Bool)
      (funcA fv fun f first cap => bif Nat.beq f YLD then false else C f (first ++ cap) h (fun _ h => bodyK P true C fuel st [.ptr b off, .bool true] h fun _ h => bodyK P true C fuel un [.ptr b (off + 1)] h fun _ h => K (.tup []) h))
      (bodyK P true C fuel un [.ptr b (off + 1)] h fun _ h => K (.tup []) h) t
end Go.Ev
end
section
namespace Go.Ev
noncomputable def isNil {α : Type} (t : T α) : Bool := T.rec (motive := fun _ => Bool) true (fun _ _ _ _ _ => false) t
theorem isNil_true {α : Type} {t : T α} (h : isNil t = true) : t = .nil := by cases t with | nil => rfl | node _ _ _ => exact absurd h (by simp [isNil])
noncomputable def eqO {α : Type} (eq : α → α → Bool) (u v : Option α) : Bool :=
  Option.rec (motive := fun _ => Option α → Bool) (fun v => Option.rec (motive := fun _ => Bool) true (fun _ => false) v) (fun a v => Option.rec (motive := fun _ => Bool) false (fun b => eq a b) v) u v
theorem eqO_true {α : Type} {eq : α → α → Bool} (he : ∀ a b, eq a b = true → a = b) {u v : Option α} (h : eqO eq u v = true) : u = v := by
  cases u with
  | none => cases v with | none => rfl | some b => exact absurd (show false = true from h) (by simp)
  | some a => cases v with | none => exact absurd (show false = true from h) (by simp) | some b => rw [he a b h]
noncomputable def andK (a b : Bool) : Bool := Bool.rec (motive := fun _ => Bool) false b a
theorem andK_true {a b : Bool} (h : andK a b = true) : a = true ∧ b = true := by cases a with | true => exact ⟨rfl, h⟩ | false => exact absurd (show false = true from h) (by simp)
noncomputable def subT {α : Type} (eq : α → α → Bool) (s : T α) : T α → Bool :=
  T.rec (motive := fun _ => T α → Bool) (fun _ => true)
    (fun _ v _ il ir t => T.rec (motive := fun _ => Option α → (T α → Bool) → (T α → Bool) → Bool) (fun _ _ _ => false)
      (fun l' v' r' _ _ v il ir => andK (Option.rec (motive := fun _ => Bool) true (fun a => Option.rec (motive := fun _ => Bool) false (fun b => eq a b) v') v) (andK (il l') (ir r'))) t v il ir) s
theorem subT_true {α : Type} {eq : α → α → Bool} (he : ∀ a b, eq a b = true → a = b) : ∀ {s t : T α}, subT eq s t = true → ∀ j x, s.get j = some x → t.get j = some x := by
  intro s
  induction s with
  | nil => intro t _ j x hj; rw [T.get_nil] at hj; simp at hj
  | node l v r ihl ihr =>
    intro t h j x hj
    cases t with
    | nil => exact absurd (show false = true from h) (by simp)
    | node l' v' r' =>
      have h' : andK (Option.rec (motive := fun _ => Bool) true (fun a => Option.rec (motive := fun _ => Bool) false (fun b => eq a b) v') v) (andK (subT eq l l') (subT eq r r')) = true := h
      obtain ⟨h1, h2⟩ := andK_true h'
      obtain ⟨h2, h3⟩ := andK_true h2
      cases j with
      | zero =>
        have hv : v = some x := hj
        subst hv
        show v' = some x
        cases v' with
        | none => exact absurd (show false = true from h1) (by simp)
        | some b => rw [he x b h1]
      | succ j =>
        rw [T.get_succ] at hj ⊢
        by_cases e : j % 2 = 0
        · rw [if_pos e] at hj ⊢; exact ihl h2 _ _ hj
        · rw [if_neg e] at hj ⊢; exact ihr h3 _ _ hj
noncomputable def domT {α : Type} (s : T α) : T α → Bool := subT (fun _ _ => true) s
theorem domT_true {α : Type} : ∀ {s t : T α}, domT s t = true → ∀ j x, s.get j = some x → ∃ y, t.get j = some y := by
  intro s
  induction s with
  | nil => intro t _ j x hj; rw [T.get_nil] at hj; simp at hj
  | node l v r ihl ihr =>
    intro t h j x hj
    cases t with
    | nil => exact absurd (show false = true from h) (by simp)
    | node l' v' r' =>
      have h' : andK (Option.rec (motive := fun _ => Bool) true (fun a => Option.rec (motive := fun _ => Bool) false (fun b => true) v') v) (andK (domT l l') (domT r r')) = true := h
      obtain ⟨h1, h2⟩ := andK_true h'
      obtain ⟨h2, h3⟩ := andK_true h2
      cases j with
      | zero =>
        have hv : v = some x := hj
        subst hv
        show ∃ y, v' = some y
        cases v' with
        | none => exact absurd (show false = true from h1) (by simp)
        | some b => exact ⟨b, rfl⟩
      | succ j =>
        rw [T.get_succ] at hj
        simp only [T.get_succ]
        by_cases e : j % 2 = 0
        · rw [if_pos e] at hj; simp only [if_pos e]; exact ihl h2 _ _ hj
        · rw [if_neg e] at hj; simp only [if_neg e]; exact ihr h3 _ _ hj
noncomputable def eqT {α : Type} (eq : α → α → Bool) (s : T α) : T α → Bool :=
  T.rec (motive := fun _ => T α → Bool) (fun t => isNil t)
    (fun _ v _ il ir t => T.rec (motive := fun _ => Option α → (T α → Bool) → (T α → Bool) → Bool) (fun _ _ _ => false)
      (fun l' v' r' _ _ v il ir => andK (eqO eq v v') (andK (il l') (ir r'))) t v il ir) s
theorem eqT_true {α : Type} {eq : α → α → Bool} (he : ∀ a b, eq a b = true → a = b) : ∀ {s t : T α}, eqT eq s t = true → s = t := by
  intro s
  induction s with
  | nil => intro t h; exact (isNil_true (show isNil t = true from h)).symm
  | node l v r ihl ihr =>
    intro t h
    cases t with
    | nil => exact absurd (show false = true from h) (by simp)
    | node l' v' r' =>
      have h' : andK (eqO eq v v') (andK (eqT eq l l') (eqT eq r r')) = true := h
      obtain ⟨h1, h2⟩ := andK_true h'
      obtain ⟨h2, h3⟩ := andK_true h2
      rw [eqO_true he h1, ihl h2, ihr h3]
noncomputable def eqV1 (a b : V) : Bool := match a, b with
  | .int k (.ofNat n), .int k' (.ofNat n') => andK (Nat.beq n n') (Nat.beq (kix k) (kix k'))
  | .str l c, .str l' c' => andK (Nat.beq l l') (Nat.beq c c')
  | .ptr x o, .ptr x' o' => andK (Nat.beq x x') (Nat.beq o o')
  | a, b => eqVf 1000 a b
theorem eqV1_true {a b : V} (h : eqV1 a b = true) : a = b := by
  unfold eqV1 at h
  split at h
  · obtain ⟨h1, h2⟩ := andK_true h; rw [Nat.eq_of_beq_eq_true h1, kix_inj h2]
  · obtain ⟨h1, h2⟩ := andK_true h; rw [Nat.eq_of_beq_eq_true h1, Nat.eq_of_beq_eq_true h2]
  · obtain ⟨h1, h2⟩ := andK_true h; rw [Nat.eq_of_beq_eq_true h1, Nat.eq_of_beq_eq_true h2]
  · exact (eqVf_true 1000).1 _ _ h
noncomputable def eqEnt (a b : Ent) : Bool := andK (eqV1 a.key b.key) (andK (eqV1 a.val b.val) (Nat.beq a.born b.born))
theorem eqEnt_true {a b : Ent} (h : eqEnt a b = true) : a = b := by
  obtain ⟨h1, h2⟩ := andK_true h
  obtain ⟨h2, h3⟩ := andK_true h2
  cases a; cases b
  simp only [Ent.mk.injEq]
  exact ⟨eqV1_true h1, eqV1_true h2, Nat.eq_of_beq_eq_true h3⟩
noncomputable def eqLs {α : Type} (eq : α → α → Bool) (l : List α) : List α → Bool :=
  List.rec (motive := fun _ => List α → Bool) (fun m => List.rec (motive := fun _ => Bool) true (fun _ _ _ => false) m) (fun a _ ih m => List.rec (motive := fun _ => Bool) false (fun b m _ => andK (eq a b) (ih m)) m) l
theorem eqLs_true {α : Type} {eq : α → α → Bool} (he : ∀ a b, eq a b = true → a = b) : ∀ {l m : List α}, eqLs eq l m = true → l = m
  | [], [], _ => rfl
  | [], b :: m, h => absurd (show false = true from h) (by simp)
  | a :: l, [], h => absurd (show false = true from h) (by simp)
  | a :: l, b :: m, h => by
    obtain ⟨h1, h2⟩ := andK_true (show andK (eq a b) (eqLs eq l m) = true from h)
    rw [he a b h1, eqLs_true he h2]
noncomputable def eqDat (a b : Dat) : Bool := match a, b with
  | .cells s, .cells t => eqT eqV1 s t
  | .bytes c, .bytes c' => Nat.beq c c'
  | .map es c, .map es' c' => andK (eqLs eqEnt es es') (Nat.beq c c')
  | .mit x s l n, .mit x' s' l' n' => andK (Nat.beq x x') (andK (Nat.beq s s') (andK (eqLs Nat.beq l l') (Nat.beq n n')))
  | _, _ => false
theorem eqDat_true {a b : Dat} (h : eqDat a b = true) : a = b := by
  unfold eqDat at h
  split at h
  · rw [eqT_true (fun _ _ => eqV1_true) h]
  · rw [Nat.eq_of_beq_eq_true h]
  · obtain ⟨h1, h2⟩ := andK_true h; rw [eqLs_true (fun _ _ => eqEnt_true) h1, Nat.eq_of_beq_eq_true h2]
  · obtain ⟨h1, h2⟩ := andK_true h
    obtain ⟨h2, h3⟩ := andK_true h2
    obtain ⟨h3, h4⟩ := andK_true h3
    rw [Nat.eq_of_beq_eq_true h1, Nat.eq_of_beq_eq_true h2, eqLs_true (fun _ _ => Nat.eq_of_beq_eq_true) h3, Nat.eq_of_beq_eq_true h4]
  · exact absurd h (by simp)
noncomputable def eqTy (a b : Option (TypeId × Bool)) : Bool := eqO (fun x y => andK (Nat.beq x.1 y.1) (x.2 == y.2)) a b
theorem eqTy_true {a b : Option (TypeId × Bool)} (h : eqTy a b = true) : a = b := eqO_true (fun x y h => by
  obtain ⟨h1, h2⟩ := andK_true h
  exact Prod.ext (Nat.eq_of_beq_eq_true h1) (eq_of_beq h2)) h
noncomputable def eqBlk (a b : Blk) : Bool := andK (Nat.beq a.g b.g) (andK (Nat.beq a.pos b.pos) (andK (Nat.beq a.n b.n) (andK (eqTy a.ty b.ty) (eqDat a.d b.d))))
theorem eqBlk_true {a b : Blk} (h : eqBlk a b = true) : a = b := by
  obtain ⟨h1, h2⟩ := andK_true h
  obtain ⟨h2, h3⟩ := andK_true h2
  obtain ⟨h3, h4⟩ := andK_true h3
  obtain ⟨h4, h5⟩ := andK_true h4
  cases a; cases b
  simp only [Blk.mk.injEq]
  exact ⟨Nat.eq_of_beq_eq_true h1, Nat.eq_of_beq_eq_true h2, Nat.eq_of_beq_eq_true h3, eqDat_true h5, eqTy_true h4⟩
noncomputable def eqGrp (a b : Grp) : Bool := andK (Nat.beq a.minv b.minv) (andK (Nat.beq a.maxe b.maxe) (Nat.beq a.last b.last))
theorem eqGrp_true {a b : Grp} (h : eqGrp a b = true) : a = b := by
  obtain ⟨h1, h2⟩ := andK_true h
  obtain ⟨h2, h3⟩ := andK_true h2
  cases a; cases b
  simp only [Grp.mk.injEq]
  exact ⟨Nat.eq_of_beq_eq_true h1, Nat.eq_of_beq_eq_true h2, Nat.eq_of_beq_eq_true h3⟩
noncomputable def eqH (g h : H) : Bool := andK (Nat.beq g.next h.next) (andK (eqT eqBlk g.bl h.bl) (eqT eqGrp g.gr h.gr))
theorem eqH_true {g h : H} (e : eqH g h = true) : g = h := by
  obtain ⟨h1, h2⟩ := andK_true e
  obtain ⟨h2, h3⟩ := andK_true h2
  cases g; cases h
  simp only [H.mk.injEq]
  exact ⟨Nat.eq_of_beq_eq_true h1, eqT_true (fun _ _ => eqBlk_true) h2, eqT_true (fun _ _ => eqGrp_true) h3⟩
noncomputable def subH (g h : H) : Bool := andK (Nat.beq g.next h.next) (andK (subT eqBlk g.bl h.bl) (eqT eqGrp g.gr h.gr))
structure Sub (g h : H) : Prop where
  next : g.next = h.next
  bl : ∀ b k, g.bl.get b = some k → h.bl.get b = some k
  gr : g.gr = h.gr
theorem subH_true {g h : H} (e : subH g h = true) : Sub g h := by
  obtain ⟨h1, h2⟩ := andK_true e
  obtain ⟨h2, h3⟩ := andK_true h2
  exact ⟨Nat.eq_of_beq_eq_true h1, subT_true (fun _ _ => eqBlk_true) h2, eqT_true (fun _ _ => eqGrp_true) h3⟩
theorem HR0.sub {B : Nat} {φ : Phi} {g h : H} {w : World} (hs : Sub g h) (hr : HR0 B φ h w) : HR0 B φ g w where
  size := hr.size
  dom b L hL := let ⟨x, y⟩ := hr.dom b L hL; ⟨by rw [hs.next]; exact x, y⟩
  hold b L k hL hk hl := hr.hold b L k hL (hs.bl b k hk) (fun G hG => hl G (by rw [hs.gr]; exact hG))
  sep b b' L L' k k' h1 h2 h3 h4 h5 h6 := hr.sep b b' L L' k k' h1 h2 (hs.bl _ _ h3) (hs.bl _ _ h4) (fun G hG => h5 G (by rw [hs.gr]; exact hG)) (fun G hG => h6 G (by rw [hs.gr]; exact hG))
  aln b b' L L' k k' h1 h2 h3 h4 h5 h6 := hr.aln b b' L L' k k' h1 h2 (hs.bl _ _ h3) (hs.bl _ _ h4) (fun G hG => h5 G (by rw [hs.gr]; exact hG)) (fun G hG => h6 G (by rw [hs.gr]; exact hG))
  reach b L k G h1 h2 h3 h4 := hr.reach b L k G h1 (hs.bl _ _ h2) (fun G hG => h3 G (by rw [hs.gr]; exact hG)) (by rw [← hs.gr]; exact h4)
  last b k G h1 h2 := hr.last b k G (hs.bl _ _ h1) (by rw [← hs.gr]; exact h2)
  lone b L k h1 h2 h3 := hr.lone b L k h1 (hs.bl _ _ h2) (by rw [← hs.gr]; exact h3)
  grp b k h1 := by rw [hs.next]; exact hr.grp b k (hs.bl _ _ h1)
  fresh b k h1 := by rw [hs.next]; exact hr.fresh b k (hs.bl _ _ h1)
  grn g' x h1 := by rw [hs.next]; exact hr.grn g' x (by rw [← hs.gr]; exact h1)
  elt b L k e h1 h2 h3 := hr.elt b L k e h1 (hs.bl _ _ h2) h3
theorem HR.sub {B : Bd} {φ : Phi} {g h : H} {w : World} (hs : Sub g h) (hu : ∀ b k, B.U b = some k → ∃ y, g.bl.get b = some y) (hr : HR B φ h w) : HR B φ g w :=
  ⟨hr.toHR0.sub hs, fun b k hb => by
    obtain ⟨h1, h2, h3, h4⟩ := hr.res b k hb
    obtain ⟨y, hy⟩ := hu b k hb
    have := hs.bl b y hy
    rw [h2] at this
    simp only [Option.some.injEq] at this; subst this
    exact ⟨h1, hy, by rw [hs.gr]; exact h3, by rw [hs.next]; exact h4⟩⟩
noncomputable def isVH (v : V) (g : H) : V → H → Bool := fun u h => andK (eqV1 u v) (subH g h)
noncomputable def exMemo (vs0 : List V) (h0 : H) (v1 : V) (h1 : H) : Ex := fun vs h K => Bool.rec (motive := fun _ => Bool) false (K v1 h1) (andK (eqLs eqV1 vs vs0) (eqH h h0))
theorem memo_ok {P : Program} {C : CallH} (hC : CallOk P C) {f : FuncId} (hne : f ≠ YLD) {vs0 : List V} {h0 : H} {v1 : V} {h1 : H} (hrun : C f vs0 h0 (isVH v1 h1) = true) (hdom : domT h0.bl h1.bl = true) : FnOk P f (exMemo vs0 h0 v1 h1) := by
  intro vs h K hk B φ w args hr hv
  have hk' : Bool.rec (motive := fun _ => Bool) false (K v1 h1) (andK (eqLs eqV1 vs vs0) (eqH h h0)) = true := hk
  cases hb : andK (eqLs eqV1 vs vs0) (eqH h h0) with
  | false => rw [hb] at hk'; exact absurd hk' (by simp)
  | true =>
    rw [hb] at hk'
    have hk' : K v1 h1 = true := hk'
    obtain ⟨e1, e2⟩ := andK_true hb
    have e1 := eqLs_true (fun _ _ => eqV1_true) e1
    have e2 := eqH_true e2
    subst e1; subst e2
    have key : ∀ e w', Post B φ w (isVH v1 h1) e w' → Post B φ w K e w' := by
      rintro e w' ⟨u, h', φ', x, he, q1, q2, q3, q4, q5⟩
      obtain ⟨q5, q6⟩ := andK_true q5
      have q5 := eqV1_true q5
      subst q5
      refine ⟨u, h1, φ', x, he, q1, q2, q3.sub (subH_true q6) (fun b k hu => ?_), q4, hk'⟩
      exact domT_true hdom b k (hr.res b k hu).2.1
    rcases hC.fn f vs h _ hne hrun B φ w args hr hv with ⟨g1, g2⟩ | ⟨x, w', g1, g2⟩
    · exact .inl ⟨g1, g2.mono fun e w' => key e w'⟩
    · exact .inr ⟨x, w', g1, key _ _ g2⟩
end Go.Ev
end
