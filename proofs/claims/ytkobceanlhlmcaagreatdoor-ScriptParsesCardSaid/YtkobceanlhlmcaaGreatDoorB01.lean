/- Part of the proof that card_holds ends in: closed runs of the digest, the seal and the cipher, as tables. -/
import Derived.Test.YtkobceanlhlmcaaGreatDoorA10
import Derived.Test.YtkobceanlhlmcaaGreatDoorP01
import Derived.Test.YtkobceanlhlmcaaGreatDoorA12
import Derived.Test.YtkobceanlhlmcaaGreatDoorProg
import Derived.WalkKit
import Derived.Outline
import Derived.Test.YtkobceanlhlmcaaGreatDoorA13
set_option linter.all false
section
namespace Go.Ev
open Go.Proofs Go.Proofs.Parse
theorem enter_run {P : Program} {f : FuncId} {fn : Func} (hf : P.funcs[f]? = some fn) (hb : fn.body.isNone = false) (hnm : (fn.name == "runtime.NumGoroutine") = false) (args : Array Value) (w : World) : (callFunc f args).run P w = .ok (.enter f args) w := by
  unfold callFunc
  simp only [Sem.run_bind, run_program, Result.andThen_ok, hf, hnm, Bool.false_eq_true, if_false, hb, Sem.run_pure]
theorem byteNm_eq (x : Nat) (h : x < 256) : byteNm x = nmByte (UInt8.ofNat x) := by
  have e : (UInt8.ofNat x).toNat = x := by simp; omega
  rw [Bool.eq_iff_iff, nmByte_iff, e]
  simp only [byteNm, Bool.or_eq_true, Bool.and_eq_true, Nat.ble_eq, Nat.beq_eq]
  omega
theorem allNm_eq : ∀ n c, allNm n c = (dec n c).all nmByte
  | 0, c => rfl
  | n + 1, c => by
    have h : allNm (n + 1) c = bif byteNm (Nat.mod c 256) then allNm n (Nat.div c 256) else false := rfl
    rw [h, allNm_eq n]
    have h2 := dec_split n 1 c
    rw [h2, List.all_append]
    have e1 : Nat.mod c 256 = c % 256 := rfl
    have e2 : Nat.div c 256 = c / 256 ^ 1 := by rw [Nat.pow_one]; rfl
    rw [e1, e2, byteNm_eq _ (Nat.mod_lt _ (by decide))]
    simp only [dec, Nat.pow_zero, Nat.div_one, Nat.pow_one, List.all_cons, List.all_nil, Bool.and_true]
    cases nmByte (UInt8.ofNat (c % 256)) <;> simp
theorem nameB_eq (n c : Nat) (hc : c < 256 ^ n) : nameB n c = nmL (dec n c) := by
  unfold nameB nmL
  rw [allNm_eq, dec_length]
  have e1 : (dec n c == [46]) = (Nat.beq n 1 && Nat.beq c 46) := by
    rw [Bool.eq_iff_iff, beq_iff_eq, Bool.and_eq_true, Nat.beq_eq, Nat.beq_eq]
    constructor
    · intro h
      have hn : n = 1 := by have := congrArg List.length h; rw [dec_length] at this; simpa using this
      subst hn
      exact ⟨rfl, dec_inj 1 c 46 hc (by decide) (h.trans rfl)⟩
    · rintro ⟨rfl, rfl⟩; rfl
  have e2 : (dec n c == [46, 46]) = (Nat.beq n 2 && Nat.beq c 11822) := by
    rw [Bool.eq_iff_iff, beq_iff_eq, Bool.and_eq_true, Nat.beq_eq, Nat.beq_eq]
    constructor
    · intro h
      have hn : n = 2 := by have := congrArg List.length h; rw [dec_length] at this; simpa using this
      subst hn
      exact ⟨rfl, dec_inj 2 c 11822 hc (by decide) (h.trans rfl)⟩
    · rintro ⟨rfl, rfl⟩; rfl
  rw [e1, e2]
  have e3 : Nat.blt 0 n = decide (1 ≤ n) := by rw [Bool.eq_iff_iff, blt_iff]; simp; omega
  have e4 : Nat.ble n 12 = decide (n ≤ 12) := by rw [Bool.eq_iff_iff, Nat.ble_eq]; simp
  rw [e3, e4]
  cases (decide (1 ≤ n) && decide (n ≤ 12) && !(Nat.beq n 1 && Nat.beq c 46) && !(Nat.beq n 2 && Nat.beq c 11822)) <;> rfl
theorem fn46 : FnOk Tryz.prog 46 exName := by
  intro vs h K hk B φ w args hr hv
  unfold exName at hk
  obtain ⟨x, rfl, hk1⟩ := l1_true hk
  obtain ⟨n, c, rfl, hk2⟩ := strA_true hk1
  rw [boolK_eq] at hk2
  obtain ⟨p, rfl, hp⟩ := args_one hv
  obtain ⟨s, rfl, hs, hc⟩ := hp.str_inv
  rw [nameB_eq n c hc, ← hs] at hk2
  refine .inl ⟨enter_run Tryz.func46 (by kernel_rfl) (by kernel_rfl) _ _, (name_any s w).mono ?_⟩
  rintro e w' ⟨rfl, hw⟩
  rcases hw with rfl | ⟨pos, rfl⟩
  · exact ⟨_, h, φ, _, rfl, Ext.refl φ, .bool _, hr, Below.refl _ _, hk2⟩
  · have hb : Below B w (w.iter s pos) := Below.of_push hr.size (o := .stringIter s pos) rfl rfl rfl rfl
    exact ⟨_, h, φ, _, rfl, Ext.refl φ, .bool _, hr.keep hb.size (fun k hk => by
      have e : (w.iter s pos).heap = w.heap.push (.stringIter s pos) := rfl
      rw [e, Array.getElem?_push, if_neg (by omega)]), hb, hk2⟩
end Go.Ev
end
section
namespace Go.Proofs.Parse
open Go Go.Proofs Go.RowKit
theorem or32 (a b : Nat) (ha : a < 4294967296) (hb : b < 4294967296) : bits BinOp.or IntKind.u32 (a : Int) (b : Int) = ((a ||| b : Nat) : Int) := by
  unfold bits
  simp only [BitVec.toNat_or]
  have h1 := Go.Ev.ofInt_small .u32 a (by simpa [Go.Ev.lim] using ha)
  have h2 := Go.Ev.ofInt_small .u32 b (by simpa [Go.Ev.lim] using hb)
  rw [show ((a : Nat) : Int) = Int.ofNat a from rfl, show ((b : Nat) : Int) = Int.ofNat b from rfl, h1, h2]
  exact Go.Ev.wrap_small .u32 _ (by simpa [Go.Ev.lim] using Nat.or_lt_two_pow (n := 32) ha hb)
theorem ret_int {k : IntKind} {a b : Int} (h : a = b) : Ending.returned (.int k a) = .returned (.int k b) := by rw [h]
def rotN (x a b : Nat) : Nat := (x * a % 4294967296) ||| (x / b)
theorem rot_eq (x a b : Nat) (hx : x < 4294967296) (A B : Int) (hA : A = ((a : Nat) : Int)) (hB : B = ((b : Nat) : Int)) : bits BinOp.or IntKind.u32 ((x : Int) * A % 4294967296) ((x : Int) / B) = ((rotN x a b : Nat) : Int) := by
  subst hA; subst hB
  have h := or32 (x * a % 4294967296) (x / b) (Nat.mod_lt _ (by decide)) (Nat.lt_of_le_of_lt (Nat.div_le_self _ _) hx)
  rw [← show ((x * a % 4294967296 : Nat) : Int) = (x : Int) * (a : Int) % 4294967296 by simp, ← show ((x / b : Nat) : Int) = (x : Int) / (b : Int) by simp]
  exact h
set_option maxRecDepth 1000000 in
theorem turn_2 (x : Nat) (h : x < 4294967296) (w : World) : Calls Tryz.prog 336 #[.int .u32 x, .int .i64 2] w fun e w' => e = .returned (.int .u32 (rotN x 1073741824 4 : Nat)) ∧ w' = w := by
  have hx : (x : Int) < 4294967296 := by omega
  have hb : bits BinOp.and IntKind.u64 (IntKind.u64.wrap (-2)) 31 = 30 := by decide +kernel
  have H := rot_eq x 1073741824 4 h _ _ rfl rfl
  have H' : Hid _ := H
  clear H
  go_enter Tryz.func336, Tryz.ntmps336
  go_wp2
  go_ret
  exact ⟨ret_int H'.out, rfl⟩
set_option maxRecDepth 1000000 in
theorem turn_6 (x : Nat) (h : x < 4294967296) (w : World) : Calls Tryz.prog 336 #[.int .u32 x, .int .i64 6] w fun e w' => e = .returned (.int .u32 (rotN x 67108864 64 : Nat)) ∧ w' = w := by
  have hx : (x : Int) < 4294967296 := by omega
  have hb : bits BinOp.and IntKind.u64 (IntKind.u64.wrap (-6)) 31 = 26 := by decide +kernel
  have H := rot_eq x 67108864 64 h _ _ rfl rfl
  have H' : Hid _ := H
  clear H
  go_enter Tryz.func336, Tryz.ntmps336
  go_wp2
  go_ret
  exact ⟨ret_int H'.out, rfl⟩
set_option maxRecDepth 1000000 in
theorem turn_7 (x : Nat) (h : x < 4294967296) (w : World) : Calls Tryz.prog 336 #[.int .u32 x, .int .i64 7] w fun e w' => e = .returned (.int .u32 (rotN x 33554432 128 : Nat)) ∧ w' = w := by
  have hx : (x : Int) < 4294967296 := by omega
  have hb : bits BinOp.and IntKind.u64 (IntKind.u64.wrap (-7)) 31 = 25 := by decide +kernel
  have H := rot_eq x 33554432 128 h _ _ rfl rfl
  have H' : Hid _ := H
  clear H
  go_enter Tryz.func336, Tryz.ntmps336
  go_wp2
  go_ret
  exact ⟨ret_int H'.out, rfl⟩
set_option maxRecDepth 1000000 in
theorem turn_11 (x : Nat) (h : x < 4294967296) (w : World) : Calls Tryz.prog 336 #[.int .u32 x, .int .i64 11] w fun e w' => e = .returned (.int .u32 (rotN x 2097152 2048 : Nat)) ∧ w' = w := by
  have hx : (x : Int) < 4294967296 := by omega
  have hb : bits BinOp.and IntKind.u64 (IntKind.u64.wrap (-11)) 31 = 21 := by decide +kernel
  have H := rot_eq x 2097152 2048 h _ _ rfl rfl
  have H' : Hid _ := H
  clear H
  go_enter Tryz.func336, Tryz.ntmps336
  go_wp2
  go_ret
  exact ⟨ret_int H'.out, rfl⟩
set_option maxRecDepth 1000000 in
theorem turn_13 (x : Nat) (h : x < 4294967296) (w : World) : Calls Tryz.prog 336 #[.int .u32 x, .int .i64 13] w fun e w' => e = .returned (.int .u32 (rotN x 524288 8192 : Nat)) ∧ w' = w := by
  have hx : (x : Int) < 4294967296 := by omega
  have hb : bits BinOp.and IntKind.u64 (IntKind.u64.wrap (-13)) 31 = 19 := by decide +kernel
  have H := rot_eq x 524288 8192 h _ _ rfl rfl
  have H' : Hid _ := H
  clear H
  go_enter Tryz.func336, Tryz.ntmps336
  go_wp2
  go_ret
  exact ⟨ret_int H'.out, rfl⟩
set_option maxRecDepth 1000000 in
theorem turn_17 (x : Nat) (h : x < 4294967296) (w : World) : Calls Tryz.prog 336 #[.int .u32 x, .int .i64 17] w fun e w' => e = .returned (.int .u32 (rotN x 32768 131072 : Nat)) ∧ w' = w := by
  have hx : (x : Int) < 4294967296 := by omega
  have hb : bits BinOp.and IntKind.u64 (IntKind.u64.wrap (-17)) 31 = 15 := by decide +kernel
  have H := rot_eq x 32768 131072 h _ _ rfl rfl
  have H' : Hid _ := H
  clear H
  go_enter Tryz.func336, Tryz.ntmps336
  go_wp2
  go_ret
  exact ⟨ret_int H'.out, rfl⟩
set_option maxRecDepth 1000000 in
theorem turn_18 (x : Nat) (h : x < 4294967296) (w : World) : Calls Tryz.prog 336 #[.int .u32 x, .int .i64 18] w fun e w' => e = .returned (.int .u32 (rotN x 16384 262144 : Nat)) ∧ w' = w := by
  have hx : (x : Int) < 4294967296 := by omega
  have hb : bits BinOp.and IntKind.u64 (IntKind.u64.wrap (-18)) 31 = 14 := by decide +kernel
  have H := rot_eq x 16384 262144 h _ _ rfl rfl
  have H' : Hid _ := H
  clear H
  go_enter Tryz.func336, Tryz.ntmps336
  go_wp2
  go_ret
  exact ⟨ret_int H'.out, rfl⟩
set_option maxRecDepth 1000000 in
theorem turn_19 (x : Nat) (h : x < 4294967296) (w : World) : Calls Tryz.prog 336 #[.int .u32 x, .int .i64 19] w fun e w' => e = .returned (.int .u32 (rotN x 8192 524288 : Nat)) ∧ w' = w := by
  have hx : (x : Int) < 4294967296 := by omega
  have hb : bits BinOp.and IntKind.u64 (IntKind.u64.wrap (-19)) 31 = 13 := by decide +kernel
  have H := rot_eq x 8192 524288 h _ _ rfl rfl
  have H' : Hid _ := H
  clear H
  go_enter Tryz.func336, Tryz.ntmps336
  go_wp2
  go_ret
  exact ⟨ret_int H'.out, rfl⟩
set_option maxRecDepth 1000000 in
theorem turn_22 (x : Nat) (h : x < 4294967296) (w : World) : Calls Tryz.prog 336 #[.int .u32 x, .int .i64 22] w fun e w' => e = .returned (.int .u32 (rotN x 1024 4194304 : Nat)) ∧ w' = w := by
  have hx : (x : Int) < 4294967296 := by omega
  have hb : bits BinOp.and IntKind.u64 (IntKind.u64.wrap (-22)) 31 = 10 := by decide +kernel
  have H := rot_eq x 1024 4194304 h _ _ rfl rfl
  have H' : Hid _ := H
  clear H
  go_enter Tryz.func336, Tryz.ntmps336
  go_wp2
  go_ret
  exact ⟨ret_int H'.out, rfl⟩
set_option maxRecDepth 1000000 in
theorem turn_25 (x : Nat) (h : x < 4294967296) (w : World) : Calls Tryz.prog 336 #[.int .u32 x, .int .i64 25] w fun e w' => e = .returned (.int .u32 (rotN x 128 33554432 : Nat)) ∧ w' = w := by
  have hx : (x : Int) < 4294967296 := by omega
  have hb : bits BinOp.and IntKind.u64 (IntKind.u64.wrap (-25)) 31 = 7 := by decide +kernel
  have H := rot_eq x 128 33554432 h _ _ rfl rfl
  have H' : Hid _ := H
  clear H
  go_enter Tryz.func336, Tryz.ntmps336
  go_wp2
  go_ret
  exact ⟨ret_int H'.out, rfl⟩
end Go.Proofs.Parse
end
section
namespace Go.Ev
open Go.Proofs Go.Proofs.Parse
noncomputable def rotK (x a b : Nat) (h : H) (K : V → H → Bool) : Bool := natK (Nat.lor (Nat.mod (Nat.mul x a) 4294967296) (Nat.div x b)) fun r => K (.int .u32 (.ofNat r)) h
noncomputable def exTurn : Ex := fun vs h K => match vs with
  | [.int .u32 (.ofNat x), .int .i64 (.ofNat n)] => bif Nat.blt x 4294967296 then
      Bool.rec (motive := fun _ => Bool) (      Bool.rec (motive := fun _ => Bool) (      Bool.rec (motive := fun _ => Bool) (      Bool.rec (motive := fun _ => Bool) (      Bool.rec (motive := fun _ => Bool) (      Bool.rec (motive := fun _ => Bool) (      Bool.rec (motive := fun _ => Bool) (      Bool.rec (motive := fun _ => Bool) (      Bool.rec (motive := fun _ => Bool) (      Bool.rec (motive := fun _ => Bool) (false) (rotK x 128 33554432 h K) (Nat.beq n 25)) (rotK x 1024 4194304 h K) (Nat.beq n 22)) (rotK x 8192 524288 h K) (Nat.beq n 19)) (rotK x 16384 262144 h K) (Nat.beq n 18)) (rotK x 32768 131072 h K) (Nat.beq n 17)) (rotK x 524288 8192 h K) (Nat.beq n 13)) (rotK x 2097152 2048 h K) (Nat.beq n 11)) (rotK x 33554432 128 h K) (Nat.beq n 7)) (rotK x 67108864 64 h K) (Nat.beq n 6)) (rotK x 1073741824 4 h K) (Nat.beq n 2)
    else false
  | _ => false
theorem fn336 : FnOk Tryz.prog 336 exTurn := by
  intro vs h K hk B φ w args hr hv
  unfold exTurn at hk
  split at hk
  rotate_left
  · exact absurd hk (by simp)
  rename_i x n
  obtain ⟨h1, hk1⟩ := bif_true hk
  clear hk
  have h1 := blt_iff.1 h1
  obtain ⟨p, q, rfl, hp, hq⟩ := args_two hv
  have := hp.int_inv; subst this
  have := hq.int_inv; subst this
  have fin : ∀ m a b : Nat, n = m → rotK x a b h K = true → Calls Tryz.prog 336 #[.int .u32 x, .int .i64 m] w (fun e w' => e = .returned (.int .u32 (rotN x a b : Nat)) ∧ w' = w) →
      ((callFunc 336 #[.int .u32 (Int.ofNat x), .int .i64 (Int.ofNat n)]).run Tryz.prog w = .ok (.enter 336 #[.int .u32 (Int.ofNat x), .int .i64 (Int.ofNat n)]) w ∧ Calls Tryz.prog 336 #[.int .u32 (Int.ofNat x), .int .i64 (Int.ofNat n)] w (Post B φ w K)) ∨ ∃ x' w', (callFunc 336 #[.int .u32 (Int.ofNat x), .int .i64 (Int.ofNat n)]).run Tryz.prog w = .ok (.value x') w' ∧ Post B φ w K (.returned x') w' := by
    intro m a b e hK hc
    subst e
    refine .inl ⟨enter_run Tryz.func336 (by kernel_rfl) (by kernel_rfl) _ _, hc.mono ?_⟩
    rintro e w' ⟨rfl, rfl⟩
    unfold rotK at hK
    rw [natK_eq] at hK
    exact Post.same hr (.int _ _) hK
  cases c2 : Nat.beq n 2 with
  | true => rw [c2] at hk1; exact fin 2 _ _ (Nat.eq_of_beq_eq_true c2) hk1 (turn_2 x h1 w)
  | false =>
  rw [c2] at hk1
  cases c6 : Nat.beq n 6 with
  | true => rw [c6] at hk1; exact fin 6 _ _ (Nat.eq_of_beq_eq_true c6) hk1 (turn_6 x h1 w)
  | false =>
  rw [c6] at hk1
  cases c7 : Nat.beq n 7 with
  | true => rw [c7] at hk1; exact fin 7 _ _ (Nat.eq_of_beq_eq_true c7) hk1 (turn_7 x h1 w)
  | false =>
  rw [c7] at hk1
  cases c11 : Nat.beq n 11 with
  | true => rw [c11] at hk1; exact fin 11 _ _ (Nat.eq_of_beq_eq_true c11) hk1 (turn_11 x h1 w)
  | false =>
  rw [c11] at hk1
  cases c13 : Nat.beq n 13 with
  | true => rw [c13] at hk1; exact fin 13 _ _ (Nat.eq_of_beq_eq_true c13) hk1 (turn_13 x h1 w)
  | false =>
  rw [c13] at hk1
  cases c17 : Nat.beq n 17 with
  | true => rw [c17] at hk1; exact fin 17 _ _ (Nat.eq_of_beq_eq_true c17) hk1 (turn_17 x h1 w)
  | false =>
  rw [c17] at hk1
  cases c18 : Nat.beq n 18 with
  | true => rw [c18] at hk1; exact fin 18 _ _ (Nat.eq_of_beq_eq_true c18) hk1 (turn_18 x h1 w)
  | false =>
  rw [c18] at hk1
  cases c19 : Nat.beq n 19 with
  | true => rw [c19] at hk1; exact fin 19 _ _ (Nat.eq_of_beq_eq_true c19) hk1 (turn_19 x h1 w)
  | false =>
  rw [c19] at hk1
  cases c22 : Nat.beq n 22 with
  | true => rw [c22] at hk1; exact fin 22 _ _ (Nat.eq_of_beq_eq_true c22) hk1 (turn_22 x h1 w)
  | false =>
  rw [c22] at hk1
  cases c25 : Nat.beq n 25 with
  | true => rw [c25] at hk1; exact fin 25 _ _ (Nat.eq_of_beq_eq_true c25) hk1 (turn_25 x h1 w)
  | false =>
  rw [c25] at hk1
  exact absurd (show false = true from hk1) (by simp)
end Go.Ev
end
section
namespace Go.Proofs.Parse
open Go Go.Proofs Go.RowKit
set_option maxRecDepth 1000000 in
theorem rotl_7 (x : Nat) (h : x < 4294967296) (w : World) : Calls Tryz.prog 424 #[.int .u32 x, .int .i64 7] w fun e w' => e = .returned (.int .u32 (rotN x 128 33554432 : Nat)) ∧ w' = w := by
  have hx : (x : Int) < 4294967296 := by omega
  have hb : bits BinOp.and IntKind.u64 7 31 = 7 := by decide +kernel
  have H := rot_eq x 128 33554432 h _ _ rfl rfl
  have H' : Hid _ := H
  clear H
  go_enter Tryz.func424, Tryz.ntmps424
  go_wp2
  go_ret
  exact ⟨ret_int H'.out, rfl⟩
set_option maxRecDepth 1000000 in
theorem rotl_8 (x : Nat) (h : x < 4294967296) (w : World) : Calls Tryz.prog 424 #[.int .u32 x, .int .i64 8] w fun e w' => e = .returned (.int .u32 (rotN x 256 16777216 : Nat)) ∧ w' = w := by
  have hx : (x : Int) < 4294967296 := by omega
  have hb : bits BinOp.and IntKind.u64 8 31 = 8 := by decide +kernel
  have H := rot_eq x 256 16777216 h _ _ rfl rfl
  have H' : Hid _ := H
  clear H
  go_enter Tryz.func424, Tryz.ntmps424
  go_wp2
  go_ret
  exact ⟨ret_int H'.out, rfl⟩
set_option maxRecDepth 1000000 in
theorem rotl_12 (x : Nat) (h : x < 4294967296) (w : World) : Calls Tryz.prog 424 #[.int .u32 x, .int .i64 12] w fun e w' => e = .returned (.int .u32 (rotN x 4096 1048576 : Nat)) ∧ w' = w := by
  have hx : (x : Int) < 4294967296 := by omega
  have hb : bits BinOp.and IntKind.u64 12 31 = 12 := by decide +kernel
  have H := rot_eq x 4096 1048576 h _ _ rfl rfl
  have H' : Hid _ := H
  clear H
  go_enter Tryz.func424, Tryz.ntmps424
  go_wp2
  go_ret
  exact ⟨ret_int H'.out, rfl⟩
set_option maxRecDepth 1000000 in
theorem rotl_16 (x : Nat) (h : x < 4294967296) (w : World) : Calls Tryz.prog 424 #[.int .u32 x, .int .i64 16] w fun e w' => e = .returned (.int .u32 (rotN x 65536 65536 : Nat)) ∧ w' = w := by
  have hx : (x : Int) < 4294967296 := by omega
  have hb : bits BinOp.and IntKind.u64 16 31 = 16 := by decide +kernel
  have H := rot_eq x 65536 65536 h _ _ rfl rfl
  have H' : Hid _ := H
  clear H
  go_enter Tryz.func424, Tryz.ntmps424
  go_wp2
  go_ret
  exact ⟨ret_int H'.out, rfl⟩
end Go.Proofs.Parse
namespace Go.Ev
open Go.Proofs Go.Proofs.Parse
noncomputable def exRotL : Ex := fun vs h K => match vs with
  | [.int .u32 (.ofNat x), .int .i64 (.ofNat n)] => bif Nat.blt x 4294967296 then
      Bool.rec (motive := fun _ => Bool) (      Bool.rec (motive := fun _ => Bool) (      Bool.rec (motive := fun _ => Bool) (      Bool.rec (motive := fun _ => Bool) (false) (rotK x 65536 65536 h K) (Nat.beq n 16)) (rotK x 4096 1048576 h K) (Nat.beq n 12)) (rotK x 256 16777216 h K) (Nat.beq n 8)) (rotK x 128 33554432 h K) (Nat.beq n 7)
    else false
  | _ => false
theorem fn424 : FnOk Tryz.prog 424 exRotL := by
  intro vs h K hk B φ w args hr hv
  unfold exRotL at hk
  split at hk
  rotate_left
  · exact absurd hk (by simp)
  rename_i x n
  obtain ⟨h1, hk1⟩ := bif_true hk
  clear hk
  have h1 := blt_iff.1 h1
  obtain ⟨p, q, rfl, hp, hq⟩ := args_two hv
  have := hp.int_inv; subst this
  have := hq.int_inv; subst this
  have fin : ∀ m a b : Nat, n = m → rotK x a b h K = true → Calls Tryz.prog 424 #[.int .u32 x, .int .i64 m] w (fun e w' => e = .returned (.int .u32 (rotN x a b : Nat)) ∧ w' = w) →
      ((callFunc 424 #[.int .u32 (Int.ofNat x), .int .i64 (Int.ofNat n)]).run Tryz.prog w = .ok (.enter 424 #[.int .u32 (Int.ofNat x), .int .i64 (Int.ofNat n)]) w ∧ Calls Tryz.prog 424 #[.int .u32 (Int.ofNat x), .int .i64 (Int.ofNat n)] w (Post B φ w K)) ∨ ∃ x' w', (callFunc 424 #[.int .u32 (Int.ofNat x), .int .i64 (Int.ofNat n)]).run Tryz.prog w = .ok (.value x') w' ∧ Post B φ w K (.returned x') w' := by
    intro m a b e hK hc
    subst e
    refine .inl ⟨enter_run Tryz.func424 (by kernel_rfl) (by kernel_rfl) _ _, hc.mono ?_⟩
    rintro e w' ⟨rfl, rfl⟩
    unfold rotK at hK
    rw [natK_eq] at hK
    exact Post.same hr (.int _ _) hK
  cases c7 : Nat.beq n 7 with
  | true => rw [c7] at hk1; exact fin 7 _ _ (Nat.eq_of_beq_eq_true c7) hk1 (rotl_7 x h1 w)
  | false =>
  rw [c7] at hk1
  cases c8 : Nat.beq n 8 with
  | true => rw [c8] at hk1; exact fin 8 _ _ (Nat.eq_of_beq_eq_true c8) hk1 (rotl_8 x h1 w)
  | false =>
  rw [c8] at hk1
  cases c12 : Nat.beq n 12 with
  | true => rw [c12] at hk1; exact fin 12 _ _ (Nat.eq_of_beq_eq_true c12) hk1 (rotl_12 x h1 w)
  | false =>
  rw [c12] at hk1
  cases c16 : Nat.beq n 16 with
  | true => rw [c16] at hk1; exact fin 16 _ _ (Nat.eq_of_beq_eq_true c16) hk1 (rotl_16 x h1 w)
  | false =>
  rw [c16] at hk1
  exact absurd (show false = true from hk1) (by simp)
end Go.Ev
end
section
namespace Go.Ev
open Go.Proofs
set_option maxRecDepth 100000
noncomputable def baseL : List (Nat × Ex) := (336, exTurn) :: (424, exRotL) :: (157, exVar 422 74 hashL) :: (46, exName) :: extL
theorem baseL_ok : ∀ p ∈ baseL, FnOk Tryz.prog p.1 p.2 := by
  intro p hp
  rcases List.mem_cons.1 hp with rfl | hp
  · exact fn336
  rcases List.mem_cons.1 hp with rfl | hp
  · exact fn424
  rcases List.mem_cons.1 hp with rfl | hp
  · exact fn157
  rcases List.mem_cons.1 hp with rfl | hp
  · exact fn46
  · exact extL_ok p hp
end Go.Ev
end
section
namespace Go.Ev
open Go.Proofs
set_option maxRecDepth 100000
noncomputable def runC (f : FuncId) (vs : List V) (h : H) (K : V → H → Bool) : Bool := callK Tryz.prog (orcSt baseL) 100000 1000 f vs h K
theorem runC_ok : CallOk Tryz.prog runC := callK_ok Tryz.prog mixed (orcSt baseL) (orcSt_ok baseL_ok) 100000 1000
theorem row159_0 : runC 159 [(.str 1 115), (.int .u8 (.ofNat 54))] hEmp (isRow 64 3624914248706447552242370820976332388233506853058136500052744116425328023387990664730028791181796547109396021218340874870065904990012944439102442881562166 (some 64)) = true := by decide +kernel
theorem row159_1 : runC 159 [(.str 1 115), (.int .u8 (.ofNat 92))] hEmp (isRow 64 2480485544882303081672112437244669174043632062121543119221315127999812257830855190545898221491447498410118179401320343691188505556370691256787364875099228 (some 64)) = true := by decide +kernel
theorem row159_2 : runC 159 [(.str 12 50737427504772248151747349689), (.int .u8 (.ofNat 54))] hEmp (isRow 64 7844515983383956250197412693016470790424223551577422642070409226528178693289440919894661490744837093638782907289787713227391837833550899528574976195442230 (some 64)) = true := by decide +kernel
theorem row159_3 : runC 159 [(.str 12 50737427504772248151747349689), (.int .u8 (.ofNat 92))] hEmp (isRow 64 13390897880134699839427295398044793993036718650848936499760144808996257775563604420507185696731927762561889760231336346646725433947495647395715766466403420 (some 64)) = true := by decide +kernel
theorem row159_4 : runC 159 [(.str 32 114223428241697336365119012894082344483823085390464196060972000551964974162592), (.int .u8 (.ofNat 54))] hEmp (isRow 64 10618493483439924774823872646047235719102944374189378047736232911281858835822816972843788209155667340192793586466075059486252889975834666315155116494566966 (some 64)) = true := by decide +kernel
theorem row159_5 : runC 159 [(.str 32 114223428241697336365119012894082344483823085390464196060972000551964974162592), (.int .u8 (.ofNat 92))] hEmp (isRow 64 8423347499906208234080218401176330596287406834178824710652884090703152098134718354962927755651297491915728941374073762089964117275994307030650893367008348 (some 64)) = true := by decide +kernel
theorem row159_6 : runC 159 [(.str 32 22391226498074609014910799243665360762954533006309534287321406267093246285688), (.int .u8 (.ofNat 54))] hEmp (isRow 64 404016073973085338079945243408220782981148089316294705742169284834443427986129634719113599548626820741755963035369911517018946266517938075062847862617654 (some 64)) = true := by decide +kernel
theorem row159_7 : runC 159 [(.str 32 22391226498074609014910799243665360762954533006309534287321406267093246285688), (.int .u8 (.ofNat 92))] hEmp (isRow 64 5753930564208159822025059620857803729255118313205849703355974591798988959387099765770454382500042004992204365470838427109100278996450173211105156988165212 (some 64)) = true := by decide +kernel
theorem row159_8 : runC 159 [(.str 32 61339580620271929414178434837373459332592384968300690018729090773118205186468), (.int .u8 (.ofNat 54))] hEmp (isRow 64 9305187301775360558315386434629216030431969402107901661343208317215380866323788643087415494855455953535556692391750079919794648413625027798128097035171382 (some 64)) = true := by decide +kernel
theorem row159_9 : runC 159 [(.str 32 61339580620271929414178434837373459332592384968300690018729090773118205186468), (.int .u8 (.ofNat 92))] hEmp (isRow 64 11509373007257232055624717011511597462913164410696343169595991187153911670505757678653298445018305729638683559046199595713614664204373963971514776646605916 (some 64)) = true := by decide +kernel
theorem row159_10 : runC 159 [(.str 6 110442424246322), (.int .u8 (.ofNat 54))] hEmp (isRow 64 4308670118409141034398390202250512303568705086340325681103210120867804434093709152606891744555502066294956161494887467659763991171677423870194164822324790 (some 64)) = true := by decide +kernel
theorem row159_11 : runC 159 [(.str 6 110442424246322), (.int .u8 (.ofNat 92))] hEmp (isRow 64 2942417867650547812516693144155506588422727525304717429999478479186626090558784921402738148775201918108176237638342243057744087280520903420133210289101916 (some 64)) = true := by decide +kernel
def rowT159 : List RowT := [⟨[(.str 1 115), (.int .u8 (.ofNat 54))], 64, 3624914248706447552242370820976332388233506853058136500052744116425328023387990664730028791181796547109396021218340874870065904990012944439102442881562166, (some 64)⟩, ⟨[(.str 1 115), (.int .u8 (.ofNat 92))], 64, 2480485544882303081672112437244669174043632062121543119221315127999812257830855190545898221491447498410118179401320343691188505556370691256787364875099228, (some 64)⟩, ⟨[(.str 12 50737427504772248151747349689), (.int .u8 (.ofNat 54))], 64, 7844515983383956250197412693016470790424223551577422642070409226528178693289440919894661490744837093638782907289787713227391837833550899528574976195442230, (some 64)⟩, ⟨[(.str 12 50737427504772248151747349689), (.int .u8 (.ofNat 92))], 64, 13390897880134699839427295398044793993036718650848936499760144808996257775563604420507185696731927762561889760231336346646725433947495647395715766466403420, (some 64)⟩, ⟨[(.str 32 114223428241697336365119012894082344483823085390464196060972000551964974162592), (.int .u8 (.ofNat 54))], 64, 10618493483439924774823872646047235719102944374189378047736232911281858835822816972843788209155667340192793586466075059486252889975834666315155116494566966, (some 64)⟩, ⟨[(.str 32 114223428241697336365119012894082344483823085390464196060972000551964974162592), (.int .u8 (.ofNat 92))], 64, 8423347499906208234080218401176330596287406834178824710652884090703152098134718354962927755651297491915728941374073762089964117275994307030650893367008348, (some 64)⟩, ⟨[(.str 32 22391226498074609014910799243665360762954533006309534287321406267093246285688), (.int .u8 (.ofNat 54))], 64, 404016073973085338079945243408220782981148089316294705742169284834443427986129634719113599548626820741755963035369911517018946266517938075062847862617654, (some 64)⟩, ⟨[(.str 32 22391226498074609014910799243665360762954533006309534287321406267093246285688), (.int .u8 (.ofNat 92))], 64, 5753930564208159822025059620857803729255118313205849703355974591798988959387099765770454382500042004992204365470838427109100278996450173211105156988165212, (some 64)⟩, ⟨[(.str 32 61339580620271929414178434837373459332592384968300690018729090773118205186468), (.int .u8 (.ofNat 54))], 64, 9305187301775360558315386434629216030431969402107901661343208317215380866323788643087415494855455953535556692391750079919794648413625027798128097035171382, (some 64)⟩, ⟨[(.str 32 61339580620271929414178434837373459332592384968300690018729090773118205186468), (.int .u8 (.ofNat 92))], 64, 11509373007257232055624717011511597462913164410696343169595991187153911670505757678653298445018305729638683559046199595713614664204373963971514776646605916, (some 64)⟩, ⟨[(.str 6 110442424246322), (.int .u8 (.ofNat 54))], 64, 4308670118409141034398390202250512303568705086340325681103210120867804434093709152606891744555502066294956161494887467659763991171677423870194164822324790, (some 64)⟩, ⟨[(.str 6 110442424246322), (.int .u8 (.ofNat 92))], 64, 2942417867650547812516693144155506588422727525304717429999478479186626090558784921402738148775201918108176237638342243057744087280520903420133210289101916, (some 64)⟩]
theorem fn159 : FnOk Tryz.prog 159 (exRowT rowT159) := exRowT_ok runC_ok (by decide) (by decide +kernel) ⟨row159_0, row159_1, row159_2, row159_3, row159_4, row159_5, row159_6, row159_7, row159_8, row159_9, row159_10, row159_11, trivial⟩
theorem row241_0 : runC 241 [(.int .i64 (.ofNat 1))] hEmp (isRow 63 26187124863169134960105517574620793217733136368344518315866330944769070371237396439066160738607233257207093473020480568073738052367083144426628220715016 none) = true := by decide +kernel
theorem row241_1 : runC 241 [(.int .i64 (.ofNat 112))] hEmp (isRow 16 170141183460469231731687303715884106624 none) = true := by decide +kernel
theorem row241_2 : runC 241 [(.int .i64 (.ofNat 113))] hEmp (isRow 15 664613997892457936451903530140173192 none) = true := by decide +kernel
theorem row241_3 : runC 241 [(.int .i64 (.ofNat 133))] hEmp (isRow 59 6097165137335922326917182089439777940915230747392521779021790936768304177382354726797472857545882756171536974846497310342671827498609932239912 none) = true := by decide +kernel
theorem row241_4 : runC 241 [(.int .i64 (.ofNat 145))] hEmp (isRow 47 76957043352332967211482500195592995713046365762627825523336510555167425334955489475418488779072100860950445294728 none) = true := by decide +kernel
theorem row241_5 : runC 241 [(.int .i64 (.ofNat 146))] hEmp (isRow 46 300613450595050653169853516389035139504087366260264943450533244356122755214669880763353471793250393988087678096 none) = true := by decide +kernel
theorem row241_6 : runC 241 [(.int .i64 (.ofNat 177))] hEmp (isRow 15 664613997892457936451903530140173704 none) = true := by decide +kernel
theorem row241_7 : runC 241 [(.int .i64 (.ofNat 181))] hEmp (isRow 11 154742504910672534362391976 none) = true := by decide +kernel
theorem row241_8 : runC 241 [(.int .i64 (.ofNat 258))] hEmp (isRow 62 102293456496754433437912178025862473506770063938845774671352855253004181137646079840102190385184504910965208878986252219038039267058918532916516489232 none) = true := by decide +kernel
theorem row241_9 : runC 241 [(.int .i64 (.ofNat 66))] hEmp (isRow 62 102293456496754433437912178025862473506770063938845774671352855253004181137646079840102190385184504910965208878986252219038039267058918532916516487696 none) = true := by decide +kernel
theorem row241_10 : runC 241 [(.int .i64 (.ofNat 68))] hEmp (isRow 60 1560874275157996115690798614896583152874299071332485575429578479812685869409882810060153051531745985579913465560703311447723987839644142653145632 none) = true := by decide +kernel
theorem row241_11 : runC 241 [(.int .i64 (.ofNat 69))] hEmp (isRow 59 6097165137335922326917182089439777940915230747392521779021790936768304177382354726797472857545882756171536974846497310342671827498609932239400 none) = true := by decide +kernel
theorem row241_12 : runC 241 [(.int .i64 (.ofNat 80))] hEmp (isRow 48 19701003098197239606139520050071806902539869635232723333974146702122860885748605305707133127442457820403313995154048 none) = true := by decide +kernel
theorem row241_13 : runC 241 [(.int .i64 (.ofNat 81))] hEmp (isRow 47 76957043352332967211482500195592995713046365762627825523336510555167425334955489475418488779072100860950445294216 none) = true := by decide +kernel
theorem row241_14 : runC 241 [(.int .i64 (.ofNat 96))] hEmp (isRow 32 57896044618658097711785492504343953926634992332820282019728792003956564820736 none) = true := by decide +kernel
def rowT241 : List RowT := [⟨[(.int .i64 (.ofNat 1))], 63, 26187124863169134960105517574620793217733136368344518315866330944769070371237396439066160738607233257207093473020480568073738052367083144426628220715016, none⟩, ⟨[(.int .i64 (.ofNat 112))], 16, 170141183460469231731687303715884106624, none⟩, ⟨[(.int .i64 (.ofNat 113))], 15, 664613997892457936451903530140173192, none⟩, ⟨[(.int .i64 (.ofNat 133))], 59, 6097165137335922326917182089439777940915230747392521779021790936768304177382354726797472857545882756171536974846497310342671827498609932239912, none⟩, ⟨[(.int .i64 (.ofNat 145))], 47, 76957043352332967211482500195592995713046365762627825523336510555167425334955489475418488779072100860950445294728, none⟩, ⟨[(.int .i64 (.ofNat 146))], 46, 300613450595050653169853516389035139504087366260264943450533244356122755214669880763353471793250393988087678096, none⟩, ⟨[(.int .i64 (.ofNat 177))], 15, 664613997892457936451903530140173704, none⟩, ⟨[(.int .i64 (.ofNat 181))], 11, 154742504910672534362391976, none⟩, ⟨[(.int .i64 (.ofNat 258))], 62, 102293456496754433437912178025862473506770063938845774671352855253004181137646079840102190385184504910965208878986252219038039267058918532916516489232, none⟩, ⟨[(.int .i64 (.ofNat 66))], 62, 102293456496754433437912178025862473506770063938845774671352855253004181137646079840102190385184504910965208878986252219038039267058918532916516487696, none⟩, ⟨[(.int .i64 (.ofNat 68))], 60, 1560874275157996115690798614896583152874299071332485575429578479812685869409882810060153051531745985579913465560703311447723987839644142653145632, none⟩, ⟨[(.int .i64 (.ofNat 69))], 59, 6097165137335922326917182089439777940915230747392521779021790936768304177382354726797472857545882756171536974846497310342671827498609932239400, none⟩, ⟨[(.int .i64 (.ofNat 80))], 48, 19701003098197239606139520050071806902539869635232723333974146702122860885748605305707133127442457820403313995154048, none⟩, ⟨[(.int .i64 (.ofNat 81))], 47, 76957043352332967211482500195592995713046365762627825523336510555167425334955489475418488779072100860950445294216, none⟩, ⟨[(.int .i64 (.ofNat 96))], 32, 57896044618658097711785492504343953926634992332820282019728792003956564820736, none⟩]
theorem fn241 : FnOk Tryz.prog 241 (exRowT rowT241) := exRowT_ok runC_ok (by decide) (by decide +kernel) ⟨row241_0, row241_1, row241_2, row241_3, row241_4, row241_5, row241_6, row241_7, row241_8, row241_9, row241_10, row241_11, row241_12, row241_13, row241_14, trivial⟩
noncomputable def rowL : List (Nat × Ex) := (159, exRowT rowT159) :: (241, exRowT rowT241) :: baseL
theorem consOk {f : Nat} {g : Ex} {l : List (Nat × Ex)} (h : FnOk Tryz.prog f g) (hl : ∀ p ∈ l, FnOk Tryz.prog p.1 p.2) : ∀ p ∈ (f, g) :: l, FnOk Tryz.prog p.1 p.2 := by
  intro p hp
  rcases List.mem_cons.1 hp with rfl | hp
  · exact h
  · exact hl p hp
theorem mNil {f : Nat} : ∀ m ∈ ([] : List Mem), MemOk Tryz.prog f m := fun m hm => absurd hm (by simp)
theorem mCons {f : Nat} {m : Mem} {l : List Mem} (h : MemOk Tryz.prog f m) (hl : ∀ m ∈ l, MemOk Tryz.prog f m) : ∀ x ∈ m :: l, MemOk Tryz.prog f x := by
  intro x hx
  rcases List.mem_cons.1 hx with rfl | hx
  · exact h
  · exact hl x hx
theorem tNil {f : Nat} : ∀ p ∈ ([] : List (List V × V)), FnOk Tryz.prog f (exTab [p]) := fun m hm => absurd hm (by simp)
theorem tCons {f : Nat} {p : List V × V} {l : List (List V × V)} (h : FnOk Tryz.prog f (exTab [p])) (hl : ∀ p ∈ l, FnOk Tryz.prog f (exTab [p])) : ∀ x ∈ p :: l, FnOk Tryz.prog f (exTab [x]) := by
  intro x hx
  rcases List.mem_cons.1 hx with rfl | hx
  · exact h
  · exact hl x hx
theorem rowL_ok : ∀ p ∈ rowL, FnOk Tryz.prog p.1 p.2 := consOk fn159 (consOk fn241 (baseL_ok))
end Go.Ev
end
