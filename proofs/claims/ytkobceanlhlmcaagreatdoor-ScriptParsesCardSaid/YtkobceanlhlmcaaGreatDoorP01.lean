/- Part of the proof that card_holds ends in: what the script reader of the program and that of the reference return, line by line. -/
import Derived.Test.YtkobceanlhlmcaaGreatDoorProg
import Derived.WalkKit
import Derived.Laws.RangeString
import Derived.Laws.RangeAny
import Derived.Outline
import Derived.Lib.ConvBytes
set_option linter.all false
section
namespace Go.Proofs.Parse
open Go Go.Proofs Go.RowKit
def nmByte (c : UInt8) : Bool := (97 ≤ c && c ≤ 122) || (48 ≤ c && c ≤ 57) || c == 45 || c == 95 || c == 46
def nmL (l : List UInt8) : Bool := decide (1 ≤ l.length) && decide (l.length ≤ 12) && !(l == [46]) && !(l == [46, 46]) && l.all nmByte
theorem nmByte_iff (c : UInt8) : nmByte c = true ↔ (97 ≤ c.toNat ∧ c.toNat ≤ 122) ∨ (48 ≤ c.toNat ∧ c.toNat ≤ 57) ∨ c.toNat = 45 ∨ c.toNat = 95 ∨ c.toNat = 46 := by
  unfold nmByte
  simp only [Bool.or_eq_true, Bool.and_eq_true, decide_eq_true_eq, beq_iff_eq, UInt8.le_iff_toNat_le, ← UInt8.toNat_inj]
  simp only [UInt8.toNat_ofNat, Nat.reduceMod, Nat.reducePow]
  omega
theorem len_data (s : ByteArray) : s.data.toList.length = s.size := by simp
theorem getEl (s : ByteArray) (i : Nat) (h : i < s.size) : s.data.toList[i]? = some (s[i]'h) := by
  rw [List.getElem?_eq_getElem (by simpa using h)]; rfl
theorem nm_bad (s : ByteArray) (pos : Nat) (hp : pos < s.size) (h : nmByte (s[pos]'hp) = false) : nmL s.data.toList = false := by
  have : s.data.toList.all nmByte = false := by
    rw [List.all_eq_false]
    exact ⟨s[pos]'hp, List.mem_iff_getElem?.2 ⟨pos, getEl s pos hp⟩, by simp [h]⟩
  simp [nmL, this]
theorem take_all (s : ByteArray) (pos : Nat) (hp : pos < s.size) (ha : (s.data.toList.take pos).all nmByte = true) (h : nmByte (s[pos]'hp) = true) : (s.data.toList.take (pos + 1)).all nmByte = true := by
  rw [List.take_add_one, List.all_append, ha, getEl s pos hp]
  simp [h]
theorem nm_good (s : ByteArray) (pos : Nat) (hp : ¬ pos < s.size) (ha : (s.data.toList.take pos).all nmByte = true) (h1 : 1 ≤ (s.size : Int)) (h2 : (s.size : Int) ≤ 12) (h3 : ¬ s.toList = [46]) (h4 : ¬ s.toList = [46, 46]) : nmL s.data.toList = true := by
  rw [List.take_of_length_le (by simp; omega)] at ha
  rw [ByteArray.toList_eq] at h3 h4
  have h5 := len_data s
  simp only [nmL, Bool.and_eq_true, decide_eq_true_eq, Bool.not_eq_true', beq_eq_false_iff_ne, ne_eq]
  exact ⟨⟨⟨⟨by omega, by omega⟩, h3⟩, h4⟩, ha⟩
theorem nm_short (s : ByteArray) (h : (s.size : Int) < 1) : nmL s.data.toList = false := by
  have := len_data s
  have h0 : s.data.toList.length = 0 := by omega
  simp [nmL, h0]
theorem nm_long (s : ByteArray) (h : 12 < (s.size : Int)) : nmL s.data.toList = false := by
  have := len_data s
  have h0 : decide (s.data.toList.length ≤ 12) = false := decide_eq_false (by omega)
  unfold nmL; rw [h0]; simp only [Bool.and_false, Bool.false_and]
theorem nm_dot (s : ByteArray) (h : s.toList = [46]) : nmL s.data.toList = false := by
  rw [ByteArray.toList_eq] at h; rw [h]; rfl
theorem nm_dots (s : ByteArray) (h : s.toList = [46, 46]) : nmL s.data.toList = false := by
  rw [ByteArray.toList_eq] at h; rw [h]; rfl
def RuneAt (s : ByteArray) (pos r d : Nat) : Prop := ∃ hp : pos < s.size, ((s[pos]'hp).toNat < 128 ∧ r = (s[pos]'hp).toNat ∧ d = 1) ∨ (128 ≤ (s[pos]'hp).toNat ∧ 128 ≤ r ∧ 1 ≤ d)
theorem runeAt (s : ByteArray) (pos : Nat) (hp : pos < s.size) : RuneAt s pos (Utf8.decode s pos).1 (Utf8.decode s pos).2 := by
  refine ⟨hp, ?_⟩
  by_cases ha : (s[pos]'hp).toNat < 128
  · rw [decode_ascii s pos hp ha]; exact .inl ⟨ha, rfl, rfl⟩
  · have := decode_high s pos hp (by omega); exact .inr ⟨by omega, this⟩
theorem RuneAt.bad {s : ByteArray} {pos r d : Nat} (h : RuneAt s pos r d) (hr : ¬ ((97 ≤ r ∧ r ≤ 122) ∨ (48 ≤ r ∧ r ≤ 57) ∨ r = 45 ∨ r = 95 ∨ r = 46)) : nmL s.data.toList = false := by
  obtain ⟨hp, h⟩ := h
  refine nm_bad s pos hp ?_
  cases hb : nmByte (s[pos]'hp) with
  | false => rfl
  | true =>
    have := (nmByte_iff _).1 hb
    omega
theorem RuneAt.good {s : ByteArray} {pos r d : Nat} (h : RuneAt s pos r d) (hr : (97 ≤ r ∧ r ≤ 122) ∨ (48 ≤ r ∧ r ≤ 57) ∨ r = 45 ∨ r = 95 ∨ r = 46) (ha : (s.data.toList.take pos).all nmByte = true) : d = 1 ∧ pos < s.size ∧ (s.data.toList.take (pos + 1)).all nmByte = true := by
  obtain ⟨hp, h⟩ := h
  rcases h with ⟨h1, h2, h3⟩ | ⟨h1, h2, h3⟩
  · exact ⟨h3, hp, take_all s pos hp ha ((nmByte_iff _).2 (by omega))⟩
  · omega
set_option maxRecDepth 1000000 in
theorem name_any (s : ByteArray) (w : World) :
    Calls Tryz.prog 46 #[.string s] w fun e w' => e = .returned (.bool (nmL s.data.toList)) ∧ (w' = w ∨ ∃ pos, w' = w.iter s pos) := by
  by_cases k1 : (s.size : Int) < 1
  · go_enter Tryz.func46, Tryz.ntmps46
    go_wp2
    go_ret
    rw [nm_short s k1]; exact ⟨rfl, .inl rfl⟩
  by_cases k2 : 12 < (s.size : Int)
  · go_enter Tryz.func46, Tryz.ntmps46
    go_wp2
    go_ret
    rw [nm_long s k2]; exact ⟨rfl, .inl rfl⟩
  by_cases k3 : s.toList = [46]
  · go_enter Tryz.func46, Tryz.ntmps46
    go_wp2
    go_ret
    rw [nm_dot s k3]; exact ⟨rfl, .inl rfl⟩
  by_cases k4 : s.toList = [46, 46]
  · go_enter Tryz.func46, Tryz.ntmps46
    go_wp2
    go_ret
    rw [nm_dots s k4]; exact ⟨rfl, .inl rfl⟩
  have hk : Hid (1 ≤ (s.size : Int) ∧ (s.size : Int) ≤ 12 ∧ ¬ s.toList = [46] ∧ ¬ s.toList = [46, 46]) := ⟨by omega, by omega, k3, k4⟩
  have j3 : (s.toList == [46]) = false := by simpa using k3
  have j4 : (s.toList == [46, 46]) = false := by simpa using k4
  clear k3 k4
  go_enter Tryz.func46, Tryz.ntmps46
  go_wp2
  clear k1 k2 j3 j4
  go_loopw [] (fun w' => ∃ pos : Nat, w' = w.iter s pos ∧ Hid ((s.data.toList.take pos).all nmByte = true)) (fun w' => s.size - w'.iterPos w.heap.size)
  case atStart => exact ⟨0, rfl, rfl⟩
  case round =>
    obtain ⟨pos, rfl, ha⟩ := hrel
    by_cases hp : pos < s.size
    · have hnx0 : ∀ ty, (Instr.next (.pointer (some ⟨w.heap.size, 0, none⟩)) true ty).run Tryz.prog (w.iter s pos) = _ := fun ty => run_next_any w s pos ty hp
      have hra : Hid (RuneAt s pos (Utf8.decode s pos).1 (Utf8.decode s pos).2) := runeAt s pos hp
      generalize (Utf8.decode s pos).1 = r at hnx0 hra
      generalize (Utf8.decode s pos).2 = d at hnx0 hra
      have hnx := hnx0
      clear hnx0
      go_wp2
      all_goals first
        | (have hg : (97 ≤ r ∧ r ≤ 122) ∨ (48 ≤ r ∧ r ≤ 57) ∨ r = 45 ∨ r = 95 ∨ r = 46 := by (clear hra ha hnx hk; (try simp only [bne_iff_ne, ne_eq, bne_eq_false_iff_eq] at *); omega)
           obtain ⟨rfl, h1, h2⟩ := hra.out.good hg ha.out
           go_roundw
           case rel => exact ⟨pos + 1, rfl, h2⟩
           case measure => (simp; omega))
        | (have hg : ¬ ((97 ≤ r ∧ r ≤ 122) ∨ (48 ≤ r ∧ r ≤ 57) ∨ r = 45 ∨ r = 95 ∨ r = 46) := by (clear hra ha hnx hk; (try simp only [bne_iff_ne, ne_eq, bne_eq_false_iff_eq] at *); omega)
           go_ret
           rw [hra.out.bad hg]
           exact ⟨rfl, .inr ⟨_, rfl⟩⟩)
    · have hnx : ∀ ty, (Instr.next (.pointer (some ⟨w.heap.size, 0, none⟩)) true ty).run Tryz.prog (w.iter s pos) = _ := fun ty => run_next_end w s pos ty hp
      go_wp2
      go_ret
      obtain ⟨h1, h2, h3, h4⟩ := hk.out
      rw [nm_good s pos hp ha.out h1 h2 h3 h4]
      exact ⟨rfl, .inr ⟨_, rfl⟩⟩
end Go.Proofs.Parse
end
section
namespace Go.Proofs.Parse
open Go Go.Proofs Go.RowKit
set_option maxRecDepth 1000000 in
theorem rname_any (s : ByteArray) (w : World) (hs : s.size ≤ 9223372036854775807) :
    Calls Tryz.prog 49 #[.string s] w fun e w' => e = .returned (.bool (nmL s.data.toList)) ∧ w' = w := by
  by_cases k1 : (s.size : Int) < 1
  · have j1 : s.toList = [] := by
      have := len_data s
      rw [ByteArray.toList_eq]; exact List.eq_nil_of_length_eq_zero (by omega)
    have j2 : s.toList.isEmpty = true := by rw [j1]; rfl
    go_enter Tryz.func49, Tryz.ntmps49
    go_wp2
    go_ret
    rw [nm_short s k1]; exact ⟨rfl, rfl⟩
  have j1 : s.toList.isEmpty = false := by
    have := len_data s
    rw [ByteArray.toList_eq]
    cases h : s.data.toList with
    | nil => rw [h] at this; simp at this; omega
    | cons _ _ => rfl
  have j2 : ¬ s.toList = [] := by intro h; rw [h] at j1; simp at j1
  by_cases k2 : 12 < (s.size : Int)
  · go_enter Tryz.func49, Tryz.ntmps49
    go_wp2
    go_ret
    rw [nm_long s k2]; exact ⟨rfl, rfl⟩
  by_cases k3 : s.toList = [46]
  · go_enter Tryz.func49, Tryz.ntmps49
    go_wp2
    go_ret
    rw [nm_dot s k3]; exact ⟨rfl, rfl⟩
  by_cases k4 : s.toList = [46, 46]
  · go_enter Tryz.func49, Tryz.ntmps49
    go_wp2
    go_ret
    rw [nm_dots s k4]; exact ⟨rfl, rfl⟩
  have hk : Hid (1 ≤ (s.size : Int) ∧ (s.size : Int) ≤ 12 ∧ ¬ s.toList = [46] ∧ ¬ s.toList = [46, 46]) := ⟨by omega, by omega, k3, k4⟩
  have j3 : (s.toList == [46]) = false := by simpa using k3
  have j4 : (s.toList == [46, 46]) = false := by simpa using k4
  clear k3 k4
  go_enter Tryz.func49, Tryz.ntmps49
  go_wp2
  clear k1 j1 j2 k2 j3 j4
  go_loop [3] (fun i => ∃ k : Nat, i = .int .i64 k ∧ k ≤ s.size ∧ Hid ((s.data.toList.take k).all nmByte = true)) (fun i => s.size - (intOf i).toNat)
  case atStart => exact ⟨0, rfl, Nat.zero_le _, rfl⟩
  case round =>
    obtain ⟨k, rfl, hle, ha⟩ := hrel
    by_cases hp : k < s.size
    · go_wp2
      all_goals first
        | (have hg : (97 ≤ s[k].toNat ∧ s[k].toNat ≤ 122) ∨ (48 ≤ s[k].toNat ∧ s[k].toNat ≤ 57) ∨ s[k].toNat = 45 ∨ s[k].toNat = 95 ∨ s[k].toNat = 46 := by (clear ha hk; (try simp only [Bool.not_eq_true', Bool.not_eq_false', beq_iff_eq, beq_eq_false_iff_ne, decide_eq_true_eq, decide_eq_false_iff_not, ne_eq] at *); omega)
           have h2 := take_all s k hp ha.out ((nmByte_iff _).2 hg)
           go_round
           case rel => exact ⟨k + 1, by go_num, by omega, h2⟩
           case measure => (simp [intOf]; omega))
        | (have hg : ¬ ((97 ≤ s[k].toNat ∧ s[k].toNat ≤ 122) ∨ (48 ≤ s[k].toNat ∧ s[k].toNat ≤ 57) ∨ s[k].toNat = 45 ∨ s[k].toNat = 95 ∨ s[k].toNat = 46) := by (clear ha hk; (try simp only [Bool.not_eq_true', Bool.not_eq_false', beq_iff_eq, beq_eq_false_iff_ne, decide_eq_true_eq, decide_eq_false_iff_not, ne_eq] at *); omega)
           have h2 : nmByte s[k] = false := by
             cases hb : nmByte s[k] with
             | false => rfl
             | true => exact absurd ((nmByte_iff _).1 hb) hg
           go_ret
           rw [nm_bad s k hp h2]
           exact ⟨rfl, rfl⟩)
    · go_wp2
      go_ret
      obtain ⟨h1, h2, h3, h4⟩ := hk.out
      rw [nm_good s k hp ha.out h1 h2 h3 h4]
      exact ⟨rfl, rfl⟩
end Go.Proofs.Parse
end
section
namespace Go.Proofs.Parse
open Go Go.Proofs Go.RowKit
def dgByte (c : UInt8) : Bool := 48 ≤ c && c ≤ 57
theorem dgByte_iff (c : UInt8) : dgByte c = true ↔ 48 ≤ c.toNat ∧ c.toNat ≤ 57 := by
  unfold dgByte
  simp only [Bool.and_eq_true, decide_eq_true_eq, UInt8.le_iff_toNat_le]
  simp
def numF (l : List UInt8) : Nat := l.foldl (fun n c => n * 10 + (c.toNat - 48)) 0
def numOk (l : List UInt8) : Bool := decide (1 ≤ l.length) && decide (l.length ≤ 9) && l.all dgByte
theorem numF_snoc (l : List UInt8) (c : UInt8) : numF (l ++ [c]) = numF l * 10 + (c.toNat - 48) := by simp [numF]
theorem numF_lt : ∀ l : List UInt8, l.all dgByte = true → numF l < 10 ^ l.length := by
  intro l
  suffices h : ∀ r : List UInt8, r.all dgByte = true → numF r.reverse < 10 ^ r.length by
    intro hl; have := h l.reverse (by simpa using hl); simpa using this
  intro r
  induction r with
  | nil => intro _; simp [numF]
  | cons c r ih =>
    intro hr
    simp only [List.all_cons, Bool.and_eq_true] at hr
    rw [List.reverse_cons, numF_snoc, List.length_cons, Nat.pow_succ]
    have := ih hr.2
    have := (dgByte_iff c).1 hr.1
    omega
theorem numF_small (l : List UInt8) (h : l.all dgByte = true) (hl : l.length ≤ 9) : numF l < 1000000000 := by
  have h1 := numF_lt l h
  have h2 : 10 ^ l.length ≤ 10 ^ 9 := Nat.pow_le_pow_right (by decide) hl
  have h3 : (10 : Nat) ^ 9 = 1000000000 := by decide
  omega
theorem num_bad (s : ByteArray) (k : Nat) (hp : k < s.size) (h : dgByte (s[k]'hp) = false) : numOk s.data.toList = false := by
  have : s.data.toList.all dgByte = false := by
    rw [List.all_eq_false]
    exact ⟨s[k]'hp, List.mem_iff_getElem?.2 ⟨k, getEl s k hp⟩, by simp [h]⟩
  simp [numOk, this]
theorem num_short (s : ByteArray) (h : (s.size : Int) < 1) : numOk s.data.toList = false := by
  have := len_data s
  have h0 : s.data.toList.length = 0 := by omega
  simp [numOk, h0]
theorem num_long (s : ByteArray) (h : 9 < (s.size : Int)) : numOk s.data.toList = false := by
  have := len_data s
  have h0 : decide (s.data.toList.length ≤ 9) = false := decide_eq_false (by omega)
  unfold numOk; rw [h0]; simp only [Bool.and_false, Bool.false_and]
theorem num_good (s : ByteArray) (k : Nat) (hp : ¬ k < s.size) (ha : (s.data.toList.take k).all dgByte = true) (h1 : 1 ≤ (s.size : Int)) (h2 : (s.size : Int) ≤ 9) : numOk s.data.toList = true ∧ numF (s.data.toList.take k) = numF s.data.toList := by
  have h5 := len_data s
  have e : s.data.toList.take k = s.data.toList := List.take_of_length_le (by omega)
  rw [e] at ha
  rw [e]
  refine ⟨?_, rfl⟩
  simp only [numOk, Bool.and_eq_true, decide_eq_true_eq]
  exact ⟨⟨by omega, by omega⟩, ha⟩
theorem num_step (s : ByteArray) (k : Nat) (hp : k < s.size) (ha : (s.data.toList.take k).all dgByte = true) (h2 : (s.size : Int) ≤ 9) (hd : 48 ≤ (s[k]'hp).toNat ∧ (s[k]'hp).toNat ≤ 57) :
    (s.data.toList.take (k + 1)).all dgByte = true ∧ numF (s.data.toList.take (k + 1)) = numF (s.data.toList.take k) * 10 + ((s[k]'hp).toNat - 48) ∧ numF (s.data.toList.take k) < 1000000000 := by
  have e : s.data.toList.take (k + 1) = s.data.toList.take k ++ [s[k]'hp] := by rw [List.take_add_one, getEl s k hp]; rfl
  have h5 := len_data s
  rw [e]
  refine ⟨by rw [List.all_append, ha]; simp [(dgByte_iff _).2 hd], numF_snoc _ _, numF_small _ ha (by rw [List.length_take]; omega)⟩
def numZ (l : List UInt8) : Int := if numOk l = true then (numF l : Int) else -1
set_option maxRecDepth 1000000 in
theorem rnumber_any (s : ByteArray) (w : World) :
    Calls Tryz.prog 48 #[.string s] w fun e w' => e = .returned (.int .i64 (numZ s.data.toList)) ∧ w' = w := by
  by_cases k1 : (s.size : Int) < 1
  · have j1 : s.toList = [] := by
      have := len_data s
      rw [ByteArray.toList_eq]; exact List.eq_nil_of_length_eq_zero (by omega)
    have j2 : s.toList.isEmpty = true := by rw [j1]; rfl
    go_enter Tryz.func48, Tryz.ntmps48
    go_wp2
    go_ret
    unfold numZ
    rw [num_short s k1]; exact ⟨rfl, rfl⟩
  have j1 : s.toList.isEmpty = false := by
    have := len_data s
    rw [ByteArray.toList_eq]
    cases h : s.data.toList with
    | nil => rw [h] at this; simp at this; omega
    | cons _ _ => rfl
  have j2 : ¬ s.toList = [] := by intro h; rw [h] at j1; simp at j1
  by_cases k2 : 9 < (s.size : Int)
  · go_enter Tryz.func48, Tryz.ntmps48
    go_wp2
    go_ret
    unfold numZ
    rw [num_long s k2]; exact ⟨rfl, rfl⟩
  have hk : Hid (1 ≤ (s.size : Int) ∧ (s.size : Int) ≤ 9) := ⟨by omega, by omega⟩
  go_enter Tryz.func48, Tryz.ntmps48
  go_wp2
  clear k1 j1 j2
  go_loop [3, 4] (fun n i => ∃ k : Nat, i = .int .i64 k ∧ k ≤ s.size ∧ n = .int .i64 (numF (s.data.toList.take k) : Nat) ∧ Hid ((s.data.toList.take k).all dgByte = true)) (fun _ i => s.size - (intOf i).toNat)
  case atStart => exact ⟨0, rfl, Nat.zero_le _, rfl, rfl⟩
  case round =>
    obtain ⟨k, rfl, hle, rfl, ha⟩ := hrel
    by_cases hp : k < s.size
    · by_cases hd : 48 ≤ (s[k]'hp).toNat ∧ (s[k]'hp).toNat ≤ 57
      · obtain ⟨h1, h2, h3⟩ := num_step s k hp ha.out hk.out.2 hd
        have H1 : Hid _ := h1
        have H2 : Hid _ := h2
        clear h1 h2
        generalize numF (List.take k s.data.toList) = n at *
        obtain ⟨hd1, hd2⟩ := hd
        go_wp2
        go_round
        case rel => exact ⟨k + 1, by go_num, by omega, by rw [H2.out]; exact congrArg _ (by omega), H1.out⟩
        case measure => (simp [intOf]; omega)
      · have hb : dgByte s[k] = false := by
          cases hb : dgByte s[k] with
          | false => rfl
          | true => exact absurd ((dgByte_iff _).1 hb) hd
        have hz : numZ s.data.toList = -1 := by unfold numZ; rw [num_bad s k hp hb]; rfl
        have HZ : Hid _ := hz
        clear hb hz
        go_wp2
        all_goals
          go_ret
          rw [HZ.out]
          exact ⟨rfl, rfl⟩
    · go_wp2
      go_ret
      obtain ⟨h1, h2⟩ := num_good s k hp ha.out hk.out.1 hk.out.2
      unfold numZ
      rw [if_pos h1, h2]
      exact ⟨rfl, rfl⟩
theorem toBytes (s : ByteArray) (w : World) : ∃ (W1 : World) (cap : Nat), (convert 9 56 (.string s)).run Tryz.prog w = .ok (.slice (some ⟨w.heap.size, 0, none⟩) s.size cap) W1 ∧
    (∀ (k : Nat) (hp : k < s.size), W1.cell? ⟨w.heap.size, k, none⟩ = some (.int .u8 ((s[k]'hp).toNat : Nat))) ∧ Below w.heap.size w W1 := by
  refine ⟨_, _, Lib.run_convert_string_bytes (P := Tryz.prog) w 9 56 5 s Tryz.underlying9 Tryz.underlying56 Tryz.underlying5, fun k hp => ?_, ?_⟩
  · rw [Lib.bytesWorld_cell w 5 s k hp]
    have := getEl s k hp
    rw [List.getD_eq_getElem?_getD, this]; rfl
  · exact ⟨rfl, rfl, rfl, by rw [Lib.bytesWorld_size]; omega, fun k hk => Lib.bytesWorld_at_old w 5 s k hk⟩
def numV (l : List UInt8) : Nat := if numOk l = true then numF l else 0
set_option maxRecDepth 1000000 in
theorem number_any (s : ByteArray) (w : World) :
    Calls Tryz.prog 45 #[.string s] w fun e w' => e = .returned (.tuple #[.int .i64 (numV s.data.toList), .bool (numOk s.data.toList)]) ∧ Below w.heap.size w w' := by
  by_cases k1 : (s.size : Int) < 1
  · go_enter Tryz.func45, Tryz.ntmps45
    go_wp2
    go_ret2
    unfold numV
    rw [num_short s k1]; exact ⟨rfl, Below.refl _ _⟩
  by_cases k2 : 9 < (s.size : Int)
  · go_enter Tryz.func45, Tryz.ntmps45
    go_wp2
    go_ret2
    unfold numV
    rw [num_long s k2]; exact ⟨rfl, Below.refl _ _⟩
  have hk : Hid (1 ≤ (s.size : Int) ∧ (s.size : Int) ≤ 9) := ⟨by omega, by omega⟩
  obtain ⟨W1, cap, hconv, hcell0, hbel⟩ := toBytes s w
  have HC : Hid _ := hcell0
  have HB : Hid _ := hbel
  clear hcell0 hbel
  go_enter Tryz.func45, Tryz.ntmps45
  go_wp2
  clear k1 hconv
  go_loop [4, 18] (fun n i => ∃ k : Nat, i = .int .i64 k ∧ k ≤ s.size ∧ n = .int .i64 (numF (s.data.toList.take k) : Nat) ∧ Hid ((s.data.toList.take k).all dgByte = true)) (fun _ i => s.size - (intOf i).toNat)
  case atStart => exact ⟨0, rfl, Nat.zero_le _, rfl, rfl⟩
  case round =>
    obtain ⟨k, rfl, hle, rfl, ha⟩ := hrel
    by_cases hp : k < s.size
    · have hcell := HC.out k hp
      by_cases hd : 48 ≤ (s[k]'hp).toNat ∧ (s[k]'hp).toNat ≤ 57
      · obtain ⟨h1, h2, h3⟩ := num_step s k hp ha.out hk.out.2 hd
        have H1 : Hid _ := h1
        have H2 : Hid _ := h2
        clear h1 h2
        generalize numF (List.take k s.data.toList) = n at *
        obtain ⟨hd1, hd2⟩ := hd
        go_wp2
        go_round
        case rel => exact ⟨k + 1, by go_num, by omega, by rw [H2.out]; exact congrArg _ (by omega), H1.out⟩
        case measure => (simp [intOf]; omega)
      · have hb : dgByte s[k] = false := by
          cases hb : dgByte s[k] with
          | false => rfl
          | true => exact absurd ((dgByte_iff _).1 hb) hd
        have hz : numOk s.data.toList = false ∧ numV s.data.toList = 0 := by
          have := num_bad s k hp hb
          exact ⟨this, by unfold numV; rw [this]; rfl⟩
        have HZ : Hid _ := hz
        clear hb hz
        go_wp2
        all_goals
          go_ret2
          rw [HZ.out.1, HZ.out.2]
          exact ⟨rfl, HB.out⟩
    · go_wp2
      go_ret2
      obtain ⟨h1, h2⟩ := num_good s k hp ha.out hk.out.1 hk.out.2
      unfold numV
      rw [if_pos h1, h1, h2]
      exact ⟨rfl, HB.out⟩
end Go.Proofs.Parse
end
