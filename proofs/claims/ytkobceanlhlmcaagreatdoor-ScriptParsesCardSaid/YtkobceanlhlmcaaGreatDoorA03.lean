/- Part of the proof that card_holds ends in: an evaluator of closed runs over abstract memories, and that what it says holds of the model. -/
import Derived.Test.YtkobceanlhlmcaaGreatDoorA02
import Derived.Laws.BytesString
import Derived.Laws.Cells
set_option linter.all false
section
namespace Go.Ev
theorem cell_of {w : World} {B o : Nat} {c : Array Value} {elem : TypeId} {fr : Nat × Nat} (h : w.heap[B]? = some (.cells c elem fr)) : w.cell? ⟨B, o, none⟩ = c[o]? := by
  unfold World.cell?; simp [h]
noncomputable def datK (n : Nat) (d : Dat) (j : Nat) (K : V → Bool) : Bool :=
  match d with
  | .cells t => t.getK j K
  | .bytes c => natK (Nat.mod (Nat.shiftRight c (8 * (n - 1 - j))) 256) fun z => K (.int .u8 (.ofNat z))
  | _ => false
theorem datK_sound {φ : Phi} {w : World} {L : Loc} {n j : Nat} {d : Dat} {K : V → Bool} (hh : Holds φ w L n d) (hj : j < n) (h : datK n d j K = true) :
    ∃ v x, w.cell? ⟨L.blk, L.base + j, none⟩ = some x ∧ VR φ v x ∧ K v = true := by
  unfold datK at h
  split at h
  · rename_i t
    obtain ⟨c, elem, fr, h1, h2, h3, h4, h5⟩ := hh
    obtain ⟨v, hv, hK⟩ := T.getK_true h
    obtain ⟨x, hx, hr⟩ := h5 j v hj hv
    exact ⟨v, x, by rw [cell_of h1]; exact hx, hr, hK⟩
  · rename_i cd
    obtain ⟨c, elem, fr, h1, h2, h3, h4, h5, h6⟩ := hh
    rw [natK_eq] at h
    refine ⟨_, byteVal (UInt8.ofNat (cd / 256 ^ (n - 1 - j))), ?_, ?_, h⟩
    · rw [cell_of h1]
      have e := congrArg (·[j]?) h6
      simp only [List.getElem?_take, List.getElem?_drop, if_pos hj, List.getElem?_map, dec_get n j cd hj, Option.map_some, Array.getElem?_toList] at e
      exact e
    · rw [shr_eq]
      have : byteVal (UInt8.ofNat (cd / 256 ^ (n - 1 - j))) = .int .u8 (.ofNat ((cd / 256 ^ (n - 1 - j)).mod 256)) := by
        unfold byteVal; congr 1
      rw [this]; exact .int _ _
  · exact absurd h (by simp)
noncomputable def rowK (m : Nat) (d : Dat) (n : Nat) : Nat → (List V → Bool) → Bool :=
  Nat.rec (motive := fun _ => Nat → (List V → Bool) → Bool) (fun _ K => K []) (fun _ ih j K => datK m d j fun v => ih (Nat.succ j) fun l => K (v :: l)) n
theorem rowK_sound {φ : Phi} {w : World} {L : Loc} {m : Nat} {d : Dat} (hh : Holds φ w L m d) : ∀ {n j : Nat} {K : List V → Bool}, j + n ≤ m → rowK m d n j K = true →
    ∃ l xs, l.length = n ∧ VRs φ l xs ∧ (∀ i v, xs[i]? = some v → w.cell? ⟨L.blk, L.base + (j + i), none⟩ = some v) ∧ K l = true
  | 0, j, K, _, h => ⟨[], [], rfl, .nil, by simp, h⟩
  | n + 1, j, K, hj, h => by
    have h' : (datK m d j fun v => rowK m d n (j + 1) fun l => K (v :: l)) = true := h
    obtain ⟨v, x, h1, h2, h3⟩ := datK_sound hh (by omega) h'
    obtain ⟨l, xs, h4, h5, h6, h7⟩ := rowK_sound hh (n := n) (j := j + 1) (by omega) h3
    refine ⟨v :: l, x :: xs, by simp [h4], .cons h2 h5, fun i u hu => ?_, h7⟩
    cases i with
    | zero => simp at hu; subst hu; simpa using h1
    | succ i =>
      have := h6 i u (by simpa using hu)
      rw [show j + (i + 1) = j + 1 + i by omega]; exact this
theorem addr_add' (B o n : Nat) : (⟨B, o, none⟩ : Addr).add n = ⟨B, o + n, none⟩ := add_addr B o n
noncomputable def fLoad1 : Rd := fun vs h K => match vs with
  | [.ptr b off] => blkK h b fun k => bif Nat.blt off k.n then datK k.n k.d off K else false
  | _ => false
theorem run_load' {P : Program} {w : World} {a : Addr} {x : Value} (h : w.cell? a = some x) : (load a).run P w = .ok x w := by
  unfold load Sem.run; rw [h]; rfl
theorem fLoad1_sound {P : Program} {t : TypeId} {x : Operand} {d : TypeDesc} (hd : P.underlying t = some d) (ha : aggD d = false) : RdSound P (.load t x) fLoad1 := by
  intro o ho B φ h w ρ vs K hr hv hk
  unfold fLoad1 at hk
  split at hk
  · rename_i b off
    obtain ⟨p, e, hp⟩ := hv.one
    simp only [Op.operands, List.map_cons, List.map_nil, List.cons.injEq, and_true] at e
    obtain ⟨k, hb, hl, hk⟩ := blkK_true hk
    obtain ⟨h1, h2⟩ := bif_true hk
    obtain ⟨L, hL, rfl⟩ := hp.ptr_inv
    obtain ⟨v, y, h3, h4, h5⟩ := datK_sound (hr.hold b L k hL hb hl) (blt_iff.1 h1) h2
    refine ⟨v, y, ?_, h4, h5⟩
    simp only [execOp, ho, e, Instr.loadAt, Instr.sureAddr, loadVar, Sem.run_bind, Sem.run_pure, Result.andThen_ok, run_isAgg hd, ha, Bool.false_eq_true, if_false, run_load' h3]
  · exact absurd hk (by simp)
noncomputable def fLoadN (n : Nat) : Rd := fun vs h K => match vs with
  | [.ptr b off] => blkK h b fun k => bif Nat.ble (off + n) k.n then (rowK k.n k.d n off fun l => K (.agg l)) else false
  | _ => false
theorem fLoadN_sound {P : Program} {t : TypeId} {x : Operand} {d : TypeDesc} {i : TypeInfo} (hd : P.underlying t = some d) (ha : aggD d = true) (hi : P.info? t = some i) : RdSound P (.load t x) (fLoadN i.size) := by
  intro o ho B φ h w ρ vs K hr hv hk
  unfold fLoadN at hk
  split at hk
  · rename_i b off
    obtain ⟨p, e, hp⟩ := hv.one
    simp only [Op.operands, List.map_cons, List.map_nil, List.cons.injEq, and_true] at e
    obtain ⟨k, hb, hl, hk⟩ := blkK_true hk
    obtain ⟨h1, h2⟩ := bif_true hk
    obtain ⟨L, hL, rfl⟩ := hp.ptr_inv
    obtain ⟨l, xs, h3, h4, h5, h6⟩ := rowK_sound (hr.hold b L k hL hb hl) (ble_of h1) h2
    have hlen : xs.length = i.size := by rw [← h4.length, h3]
    have hrun := run_loadCells_list (P := P) w (⟨L.blk, L.base + off, none⟩ : Addr) xs (fun j v hj => by
      rw [addr_add', Nat.add_assoc]; exact h5 j v hj)
    rw [hlen] at hrun
    refine ⟨_, .agg xs.toArray, ?_, .agg (by simpa using h4), h6⟩
    simp only [execOp, ho, e, Instr.loadAt, Instr.sureAddr, loadVar, Sem.run_bind, Sem.run_pure, Result.andThen_ok, run_isAgg hd, ha, if_true, run_sizeOf hi, hrun]
  · exact absurd hk (by simp)
noncomputable def fB2S : Rd := fun vs h K => match vs with
  | [.nils] => K (.str 0 0)
  | [.slice b off len e _] => Bool.rec (motive := fun _ => Bool)
      (blkK h b fun k => bif Nat.beq e 1 && Nat.ble (off + len) k.n then (match k.d with
        | .bytes c => strK len (Nat.mod (Nat.shiftRight c (8 * (k.n - (off + len)))) (Nat.pow 256 len)) K
        | _ => false) else false) (K (.str 0 0)) (Nat.beq len 0)
  | _ => false
theorem foldl_push (l : List UInt8) : ∀ (s : ByteArray), ((l.map fun b => (b.toNat : Int)).foldl (fun r n => r.push (UInt8.ofNat n.toNat)) s).data.toList = s.data.toList ++ l := by
  induction l with
  | nil => intro s; simp
  | cons a l ih =>
    intro s
    rw [List.map_cons, List.foldl_cons, ih]
    simp
theorem fB2S_sound {P : Program} {s t el : TypeId} {x : Operand} (hs : P.underlying s = some (.slice el)) (ht : P.underlying t = some .string) (he : P.underlying el = some (.int .u8)) : RdSound P (.convert s t x) fB2S := by
  intro o ho B φ h w ρ vs K hr hv hk
  have hconv : ∀ p : Value, (∃ a n c, p = .slice a n c) → ρ x = p → (execOp ρ o).run P w = ((Conv.bytesToString p).run P w).andThen fun v w' => .ok (.value v) w' := by
    intro p hp e
    obtain ⟨a, n, c, rfl⟩ := hp
    simp only [execOp, ho, e, convert, Sem.run_bind, run_underlying hs, run_underlying ht, Result.andThen_ok, run_underlying he]
    rfl
  unfold fB2S at hk
  split at hk
  · obtain ⟨p, e, hp⟩ := hv.one
    simp only [Op.operands, List.map_cons, List.map_nil, List.cons.injEq, and_true] at e
    have := hp.nils_inv; subst this
    refine ⟨_, .string .empty, ?_, .str rfl (by simp), hk⟩
    rw [hconv _ ⟨_, _, _, rfl⟩ e]; rfl
  · rename_i b off len ee oc
    obtain ⟨p, e, hp⟩ := hv.one
    simp only [Op.operands, List.map_cons, List.map_nil, List.cons.injEq, and_true] at e
    cases hz : Nat.beq len 0 with
    | true =>
      rw [hz] at hk
      have h0 := Nat.eq_of_beq_eq_true hz; subst h0
      refine ⟨_, .string .empty, ?_, .str rfl (by simp), hk⟩
      rcases hp.slice_inv with ⟨L, cap, hL, hcs, hlen, hoc, rfl⟩ | ⟨a, L, hL, h0', hoc, rfl⟩
      · rw [hconv _ ⟨_, _, _, rfl⟩ e, run_bytesToString w _ 0 cap [] (by rfl)]; rfl
      · rw [hconv _ ⟨_, _, _, rfl⟩ e, run_bytesToString w _ 0 0 [] (by rfl)]; rfl
    | false =>
      rw [hz] at hk
      obtain ⟨k, hb, hl, hk⟩ := blkK_true hk
      obtain ⟨h1, h2⟩ := bif_true hk
      obtain ⟨h1, h3⟩ := Bool.and_eq_true_iff.1 h1
      have h1 := Nat.eq_of_beq_eq_true h1
      have h3 := ble_of h3
      split at h2
      · rename_i c hd
        rw [strK_eq] at h2
        rcases hp.slice_inv with ⟨L, cap, hL, hcs, hlen, hoc, rfl⟩ | ⟨a, L, hL, h0', hoc, rfl⟩
        · have hh := hr.hold b L k hL hb hl
          rw [hd] at hh
          obtain ⟨cc, elem, fr, g1, g2, g3, g4, g5, g6⟩ := hh
          have hsl := dec_slice k.n off (off + len) c (by omega) h3
          rw [Nat.add_sub_cancel_left] at hsl
          have hrun := run_loadCells_list (P := P) w (⟨L.blk, L.base + off, none⟩ : Addr) ((dec len (c / 256 ^ (k.n - (off + len)))).map byteVal) (fun j v hj => by
            rw [addr_add', cell_of g1, ← Array.getElem?_toList]
            have hjl : j < len := by
              have := (List.getElem?_eq_some_iff.1 hj).1
              simpa [dec_length] using this
            have e2 := congrArg (·[off + j]?) g6
            simp only [List.getElem?_take, List.getElem?_drop, List.getElem?_map] at e2
            rw [if_pos (by omega), ← Nat.add_assoc] at e2
            rw [e2, ← hj, List.getElem?_map, ← hsl, List.getElem?_drop, List.getElem?_take, if_pos (by omega)])
          rw [List.length_map, dec_length] at hrun
          have hb' := run_bytesToString w (⟨L.blk, L.base + off, none⟩ : Addr) len cap ((dec len (c / 256 ^ (k.n - (off + len)))).map fun b => (b.toNat : Int)) (by
            rw [hrun, List.map_map]; rfl)
          refine ⟨_, .string (List.foldl (fun r (n : Int) => r.push (UInt8.ofNat n.toNat)) ByteArray.empty ((dec len (c / 256 ^ (k.n - (off + len)))).map fun b => (b.toNat : Int))), ?_, .str ?_ (Nat.mod_lt _ (Nat.pow_pos (by decide))), h2⟩
          · rw [hconv _ ⟨_, _, _, rfl⟩ e, hb']; rfl
          · rw [foldl_push, shr_eq]
            show ByteArray.empty.data.toList ++ _ = dec len (c / 256 ^ (k.n - (off + len)) % 256 ^ len)
            rw [dec_mod]; rfl
        · subst h0'; simp at hz
      · exact absurd h2 (by simp)
  · exact absurd hk (by simp)
end Go.Ev
end
section
namespace Go.Ev
noncomputable def sameKeyK (int : Bool) (a b : V) (Kt Kf : Bool) : Bool :=
  match int, a, b with
  | true, .int k x, .int k' y => bif Nat.beq (kix k) (kix k') then Bool.rec (motive := fun _ => Bool) Kf Kt (iEq x y) else false
  | false, .str n x, .str m y => Bool.rec (motive := fun _ => Bool) Kf Kt (Nat.beq n m && Nat.beq x y)
  | _, _, _ => false
def keyD (int : Bool) (d : TypeDesc) : Prop := match int, d with | true, .int _ => True | false, .string => True | _, _ => False
theorem sameKeyK_sound {φ : Phi} {int : Bool} {d : TypeDesc} {a b : V} {x y : Value} {Kt Kf : Bool} (hd : keyD int d) (ha : VR φ a x) (hb : VR φ b y) (h : sameKeyK int a b Kt Kf = true) :
    (Instr.sameNow d x y = some true ∧ Kt = true) ∨ (Instr.sameNow d x y = some false ∧ Kf = true) := by
  unfold sameKeyK at h
  split at h
  · rename_i k p k' q
    obtain ⟨h1, h2⟩ := bif_true h
    have := kix_inj h1; subst this
    have := ha.int_inv; subst this
    have := hb.int_inv; subst this
    cases d <;> simp only [keyD] at hd
    rw [iEq_eq] at h2
    simp only [Instr.sameNow, if_true]
    cases hc : (p == q) with
    | true => rw [hc] at h2; exact .inl ⟨rfl, h2⟩
    | false => rw [hc] at h2; exact .inr ⟨rfl, h2⟩
  · rename_i n p m q
    obtain ⟨s, rfl, hs, hs'⟩ := ha.str_inv
    obtain ⟨u, rfl, hu, hu'⟩ := hb.str_inv
    cases d <;> simp only [keyD] at hd
    have e : (s == u) = (Nat.beq n m && Nat.beq p q) := by
      rw [beq_toListBytes, ByteArray.toList_eq, ByteArray.toList_eq, hs, hu, dec_eq _ _ _ _ hs' hu']
    simp only [Instr.sameNow]
    rw [e]
    cases hc : (Nat.beq n m && Nat.beq p q) with
    | true => rw [hc] at h; exact .inl ⟨rfl, h⟩
    | false => rw [hc] at h; exact .inr ⟨rfl, h⟩
  · exact absurd h (by simp)
noncomputable def findK (int : Bool) (key : V) (es : List Ent) : Nat → Bool → (Nat → V → Bool) → Bool :=
  List.rec (motive := fun _ => Nat → Bool → (Nat → V → Bool) → Bool) (fun _ Kn _ => Kn)
    (fun e _ ih i Kn Ks => sameKeyK int key e.key (natK i fun i => Ks i e.val) (ih (Nat.succ i) Kn Ks)) es
theorem findK_sound {φ : Phi} {int : Bool} {d : TypeDesc} {key : V} {x : Value} (hd : keyD int d) (hk : VR φ key x) : ∀ {es : List Ent} {xs : List MapEntry} {i : Nat} {Kn : Bool} {Ks : Nat → V → Bool},
    Ents φ es xs → findK int key es i Kn Ks = true →
    (Instr.findNow d x xs i = some none ∧ Kn = true) ∨ ∃ j v y, Instr.findNow d x xs i = some (some (j, y)) ∧ VR φ v y ∧ Ks j v = true ∧ i ≤ j ∧ j < i + xs.length
  | [], xs, i, Kn, Ks, he, h => by cases he; exact .inl ⟨rfl, h⟩
  | e :: es, xs, i, Kn, Ks, he, h => by
    cases he with | @cons _ y _ ys h1 h2 h3 h4 =>
    have h' : sameKeyK int key e.key (natK i fun i => Ks i e.val) (findK int key es (i + 1) Kn Ks) = true := h
    rcases sameKeyK_sound hd hk h1 h' with ⟨h5, h6⟩ | ⟨h5, h6⟩
    · rw [natK_eq] at h6
      refine .inr ⟨i, e.val, y.val, ?_, h2, h6, Nat.le_refl _, by simp⟩
      simp only [Instr.findNow, h5]
    · rcases findK_sound hd hk h4 h6 with ⟨h7, h8⟩ | ⟨j, v, z, h7, h8, h9, h10, h11⟩
      · exact .inl ⟨by simp only [Instr.findNow, h5]; exact h7, h8⟩
      · exact .inr ⟨j, v, z, by simp only [Instr.findNow, h5]; exact h7, h8, h9, by omega, by simp; omega⟩
theorem run_checkKey {P : Program} {w : World} {int : Bool} {d : TypeDesc} {t : TypeId} {b : Bool} {x : Value} {key : V} {φ : Phi} (hd : keyD int d) (hu : P.underlying t = some d) (n : Nat) :
    (Instr.checkKey b (n + 1) t x).run P w = .ok () w := by
  unfold Instr.checkKey
  simp only [Sem.run_bind, run_underlying hu, Result.andThen_ok]
  cases int <;> cases d <;> simp only [keyD] at hd <;> rfl
theorem run_findKey {P : Program} {w : World} {t : TypeId} {d : TypeDesc} {x : Value} {es : List MapEntry} {r : Option (Nat × Value)} (hu : P.underlying t = some d) (h : Instr.findNow d x es 0 = some r) :
    (Instr.findKey t x es).run P w = .ok r w := by
  unfold Instr.findKey
  simp only [Sem.run_bind, run_underlying hu, Result.andThen_ok, h]
  rfl
noncomputable def fLookup (int : Bool) (z : V) (ok : Bool) : Rd := fun vs h K =>
  match vs with
  | [.map b, key] => blkK h b fun k => (match k.d with
    | .map es _ => findK int key es 0 (Bool.rec (motive := fun _ => Bool) (K z) (K (.tup [z, .bool false])) ok) fun _ v => Bool.rec (motive := fun _ => Bool) (K v) (K (.tup [v, .bool true])) ok
    | _ => false)
  | [.nilm, key] => Bool.rec (motive := fun _ => Bool) (K z) (K (.tup [z, .bool false])) ok
  | _ => false
theorem fLookup_sound {P : Program} {t kt et : TypeId} {x ix : Operand} {ok int : Bool} {d : TypeDesc} {i : TypeInfo} {z : Value} {zv : V} (hu : P.underlying t = some (.map kt et)) (hk' : P.underlying kt = some d) (hd : keyD int d)
    (hi : P.info? et = some i) (hz : i.zero = some z) (hzv : ∀ φ, VR φ zv z) : RdSound P (.lookup t x ix ok) (fLookup int zv ok) := by
  intro o ho B φ h w ρ vs K hr hv hk
  unfold fLookup at hk
  split at hk
  · rename_i b key
    obtain ⟨p, q, e, hp, hq⟩ := hv.two
    simp only [Op.operands, List.map_cons, List.map_nil, List.cons.injEq, and_true] at e
    obtain ⟨k, hb, hl, hk⟩ := blkK_true hk
    obtain ⟨L, hL, rfl⟩ := hp.map_inv
    split at hk
    · rename_i es clock hdd
      have hh := hr.hold b L k hL hb hl
      rw [hdd] at hh
      obtain ⟨xs, h1, h2⟩ := hh
      have hck := run_checkKey (P := P) (w := w) (b := xs.isEmpty) (x := q) (key := key) (φ := φ) hd hk' 9999
      rcases findK_sound hd hq h2 hk with ⟨h3, h4⟩ | ⟨j, v, y, h3, h4, h5, _, _⟩
      · have hf := run_findKey (P := P) (w := w) hk' h3
        cases ok with
        | true =>
          refine ⟨_, .tuple #[z, .bool false], ?_, .tup (.cons (hzv φ) (.cons (.bool false) .nil)), h4⟩
          simp only [execOp, ho, e.1, e.2, Instr.lookup, Sem.run_bind, run_underlying hu, Result.andThen_ok, run_getObj h1, Sem.run_pure, hck, hf, run_zeroValue hi hz, if_true]
        | false =>
          refine ⟨_, z, ?_, hzv φ, h4⟩
          simp only [execOp, ho, e.1, e.2, Instr.lookup, Sem.run_bind, run_underlying hu, Result.andThen_ok, run_getObj h1, Sem.run_pure, hck, hf, run_zeroValue hi hz, Bool.false_eq_true, if_false]
      · have hf := run_findKey (P := P) (w := w) hk' h3
        cases ok with
        | true =>
          refine ⟨_, .tuple #[y, .bool true], ?_, .tup (.cons h4 (.cons (.bool true) .nil)), h5⟩
          simp only [execOp, ho, e.1, e.2, Instr.lookup, Sem.run_bind, run_underlying hu, Result.andThen_ok, run_getObj h1, Sem.run_pure, hck, hf, if_true]
        | false =>
          refine ⟨_, y, ?_, h4, h5⟩
          simp only [execOp, ho, e.1, e.2, Instr.lookup, Sem.run_bind, run_underlying hu, Result.andThen_ok, run_getObj h1, Sem.run_pure, hck, hf, Bool.false_eq_true, if_false]
    · exact absurd hk (by simp)
  · rename_i key
    obtain ⟨p, q, e, hp, hq⟩ := hv.two
    simp only [Op.operands, List.map_cons, List.map_nil, List.cons.injEq, and_true] at e
    have := hp.nilm_inv; subst this
    have hck := run_checkKey (P := P) (w := w) (b := true) (x := q) (key := key) (φ := φ) hd hk' 9999
    have hf := run_findKey (P := P) (w := w) (t := kt) (x := q) (es := []) (r := none) hk' rfl
    cases ok with
    | true =>
      refine ⟨_, .tuple #[z, .bool false], ?_, .tup (.cons (hzv φ) (.cons (.bool false) .nil)), hk⟩
      simp only [execOp, ho, e.1, e.2, Instr.lookup, Sem.run_bind, run_underlying hu, Result.andThen_ok, Sem.run_pure, List.isEmpty_toArray, List.isEmpty_nil, hck, hf, run_zeroValue hi hz, if_true]
    | false =>
      refine ⟨_, z, ?_, hzv φ, hk⟩
      simp only [execOp, ho, e.1, e.2, Instr.lookup, Sem.run_bind, run_underlying hu, Result.andThen_ok, Sem.run_pure, List.isEmpty_toArray, List.isEmpty_nil, hck, hf, run_zeroValue hi hz, Bool.false_eq_true, if_false]
  · exact absurd hk (by simp)
end Go.Ev
namespace Go.Ev
noncomputable def eqFK (fs : List (Nat × Bool)) (a b : List V) (Kt Kf : Bool) : Bool :=
  List.rec (motive := fun _ => Bool) Kt (fun f _ ih => nthK a f.1 fun x => nthK b f.1 fun y => sameKeyK f.2 x y ih Kf) fs
noncomputable def fEqS (neg : Bool) (fs : List (Nat × Bool)) : Rd := fun vs _ K =>
  match vs with
  | [.agg a, .agg b] => eqFK fs a b (Bool.rec (motive := fun _ => Bool) (K (.bool true)) (K (.bool false)) neg) (Bool.rec (motive := fun _ => Bool) (K (.bool false)) (K (.bool true)) neg)
  | _ => false
def fieldKinds (P : Program) : List Field → Option (List (Nat × Bool))
  | [] => some []
  | f :: fs => if f.name = "_" then none else
    match P.underlying f.type with
    | some (.int _) => (fieldKinds P fs).map ((f.offset, true) :: ·)
    | some .string => (fieldKinds P fs).map ((f.offset, false) :: ·)
    | _ => none
theorem part_one {P : Program} {w : World} {t : TypeId} {d : TypeDesc} {xs : Array Value} {off : Nat} {v : Value} (hd : P.underlying t = some d) (ha : aggD d = false) (h : xs[off]? = some v) : (part t xs off).run P w = .ok v w := by
  unfold part
  simp only [Sem.run_bind, run_isAgg hd, Result.andThen_ok, ha, Bool.false_eq_true, if_false, h, Sem.run_pure]
theorem same_equalIn {P : Program} {w : World} {t : TypeId} {d : TypeDesc} {int : Bool} {x y : Value} {r : Bool} (hu : P.underlying t = some d) (hd : keyD int d) (h : Instr.sameNow d x y = some r) (n : Nat) :
    (Op.equalIn (n + 1) t x y).run P w = .ok r w := by
  cases int <;> cases d <;> simp only [keyD] at hd
  · cases x <;> cases y <;> simp only [Instr.sameNow, reduceCtorEq, Option.some.injEq] at h
    subst h
    rw [run_equalIn_string w n t _ _ hu, ← beq_toListBytes]
  · cases x <;> cases y <;> simp only [Instr.sameNow, reduceCtorEq, Option.some.injEq] at h
    split at h
    · subst_vars
      simp only [Option.some.injEq] at h; subst h
      exact run_equalIn_int w n t _ _ _ _ hu
    · exact absurd h (by simp)
theorem eqFK_sound {P : Program} {φ : Phi} {w : World} {a b : List V} {xs ys : Array Value} (ha : VRs φ a xs.toList) (hb : VRs φ b ys.toList) (d : Nat) : ∀ {fs : List Field} {ks : List (Nat × Bool)} {Kt Kf : Bool}, fieldKinds P fs = some ks → eqFK ks a b Kt Kf = true →
    ((Op.eqFields (d + 1) xs ys fs).run P w = .ok true w ∧ Kt = true) ∨ ((Op.eqFields (d + 1) xs ys fs).run P w = .ok false w ∧ Kf = true)
  | [], ks, Kt, Kf, hk, h => by
    simp [fieldKinds] at hk; subst hk
    exact .inl ⟨rfl, h⟩
  | f :: fs, ks, Kt, Kf, hk, h => by
    have step : ∀ (int : Bool) (dd : TypeDesc) (ks' : List (Nat × Bool)), f.name ≠ "_" → P.underlying f.type = some dd → keyD int dd → aggD dd = false → fieldKinds P fs = some ks' → ks = (f.offset, int) :: ks' →
        ((Op.eqFields (d + 1) xs ys (f :: fs)).run P w = .ok true w ∧ Kt = true) ∨ ((Op.eqFields (d + 1) xs ys (f :: fs)).run P w = .ok false w ∧ Kf = true) := by
      intro int dd ks' hn hu hd hagg hks he
      subst he
      have h' : (nthK a f.offset fun x => nthK b f.offset fun y => sameKeyK int x y (eqFK ks' a b Kt Kf) Kf) = true := h
      obtain ⟨x, hx, h1⟩ := nthK_true h'
      obtain ⟨y, hy, h2⟩ := nthK_true h1
      obtain ⟨p, hp, hpr⟩ := ha.get hx
      obtain ⟨q, hq, hqr⟩ := hb.get hy
      rw [Array.getElem?_toList] at hp hq
      have e1 := part_one (P := P) (w := w) hu hagg hp
      have e2 := part_one (P := P) (w := w) hu hagg hq
      rcases sameKeyK_sound hd hpr hqr h2 with ⟨h3, h4⟩ | ⟨h3, h4⟩
      · have e3 := same_equalIn (P := P) (w := w) hu hd h3 d
        rcases eqFK_sound (P := P) (w := w) ha hb d hks h4 with ⟨h5, h6⟩ | ⟨h5, h6⟩
        · left; refine ⟨?_, h6⟩
          simp only [Op.eqFields, hn, ne_eq, not_false_eq_true, if_true, Sem.run_bind, e1, e2, e3, Result.andThen_ok, Bool.not_true, Bool.false_eq_true, if_false, h5]
        · right; refine ⟨?_, h6⟩
          simp only [Op.eqFields, hn, ne_eq, not_false_eq_true, if_true, Sem.run_bind, e1, e2, e3, Result.andThen_ok, Bool.not_true, Bool.false_eq_true, if_false, h5]
      · have e3 := same_equalIn (P := P) (w := w) hu hd h3 d
        right; refine ⟨?_, h4⟩
        simp only [Op.eqFields, hn, ne_eq, not_false_eq_true, if_true, Sem.run_bind, e1, e2, e3, Result.andThen_ok, Bool.not_false, Sem.run_pure]
    simp only [fieldKinds] at hk
    split at hk
    · exact absurd hk (by simp)
    · rename_i hn
      split at hk
      · rename_i k hu
        cases hks : fieldKinds P fs with
        | none => rw [hks] at hk; exact absurd hk (by simp)
        | some ks' => rw [hks] at hk; simp at hk; exact step true _ ks' hn hu trivial rfl hks hk.symm
      · rename_i hu
        cases hks : fieldKinds P fs with
        | none => rw [hks] at hk; exact absurd hk (by simp)
        | some ks' => rw [hks] at hk; simp at hk; exact step false _ ks' hn hu trivial rfl hks hk.symm
      · exact absurd hk (by simp)
theorem fEqS_sound {P : Program} {t yt : TypeId} {x y : Operand} {fs : Array Field} {ks : List (Nat × Bool)} (neg : Bool) (hu : P.underlying t = some (.struct fs)) (hks : fieldKinds P fs.toList = some ks)
    (hp : P.stoodInHeld t = false) (hg : P.eqGuardType P.depth t = false) : RdSound P (.binOp (if neg then .neq else .eql) t x y yt) (fEqS neg ks) := by
  intro o ho B φ h w ρ vs K hr hv hk
  simp only [Op.operands] at hv
  unfold fEqS at hk
  split at hk
  · rename_i a b
    obtain ⟨p, q, e, hp', hq'⟩ := hv.two
    simp only [List.map_cons, List.map_nil, List.cons.injEq, and_true] at e
    obtain ⟨xs, rfl, hxs⟩ := hp'.agg_inv
    obtain ⟨ys, rfl, hys⟩ := hq'.agg_inv
    have hfo : P.fieldsOf t = fs := by unfold Program.fieldsOf; rw [hu]
    have ht : P.underlying t = some (.struct (P.fieldsOf t)) := by rw [hfo]; exact hu
    have hrun := run_equalIn_agg w 9999 t xs ys ht hp
    rw [hfo] at hrun
    have fin : ∀ r, (Op.eqFields 9999 xs ys fs.toList).run P w = .ok r w → K (.bool (bne neg r)) = true → ∃ v x, (execOp ρ o).run P w = .ok (.value x) w ∧ VR φ v x ∧ K v = true := by
      intro r h1 h2
      refine ⟨_, .bool (bne neg r), ?_, .bool _, h2⟩
      simp only [execOp, ho, e.1, e.2]
      cases neg with
      | true =>
        simp only [if_true, Sem.run_bind, run_eqGuard_agg w .neq t x y xs ys hg, Result.andThen_ok, run_neq_struct]
        rw [show (10000 : Nat) = 9999 + 1 from rfl, hrun, h1]
        simp [Sem.run_pure]
      | false =>
        simp only [Bool.false_eq_true, if_false, Sem.run_bind, run_eqGuard_agg w .eql t x y xs ys hg, Result.andThen_ok, run_eql_struct]
        rw [show (10000 : Nat) = 9999 + 1 from rfl, hrun, h1]
        simp [Sem.run_pure]
    rcases eqFK_sound (P := P) (w := w) hxs hys 9998 hks hk with ⟨h1, h2⟩ | ⟨h1, h2⟩
    · exact fin true h1 (by cases neg <;> exact h2)
    · exact fin false h1 (by cases neg <;> exact h2)
  · exact absurd hk (by simp)
end Go.Ev
end
section
namespace Go.Ev
abbrev Al := List V → H → (V → H → Bool) → Bool
def AlSound (P : Program) (op : Op) (f : Al) : Prop :=
  ∀ (o : Oper), o.op = op → ∀ vs h K, f vs h K = true → ∃ k v h', Added h k h' ∧ K v h' = true ∧
    ∀ B φ h2 w ρ, HR B φ h2 w → VRs φ vs (op.operands.toList.map ρ) → (φ h.next = none ∧ B.U h.next = none) → h2.bl.get h.next = some k → h2.gr.get h.next = none →
      ∃ x w' L, (execOp ρ o).run P w = .ok (.value x) w' ∧ VR (φ.put h.next L) v x ∧ HR B (φ.put h.next L) h2 w' ∧ Below B w w'
noncomputable def addK (h : H) (n : Nat) (d : Dat) (ty : Option (TypeId × Bool)) (K : H → Bool) : Bool :=
  h.bl.setK h.next ⟨h.next, 0, n, d, ty⟩ fun bl => natK (Nat.succ h.next) fun nx => K ⟨nx, bl, h.gr⟩
theorem addK_true {h : H} {n : Nat} {d : Dat} {ty : Option (TypeId × Bool)} {K : H → Bool} (hk : addK h n d ty K = true) : ∃ h', Added h ⟨h.next, 0, n, d, ty⟩ h' ∧ K h' = true := by
  obtain ⟨bl, h1, h2⟩ := T.setK_true _ _ _ _ hk
  rw [natK_eq] at h2
  exact ⟨⟨h.next + 1, bl, h.gr⟩, ⟨rfl, rfl, h1, rfl, rfl⟩, h2⟩
def DatOf (φ : Phi) (n : Nat) (d : Dat) (xs : List Value) : Prop :=
  n ≤ xs.length ∧ match d with
  | .cells t => ∀ j v, j < n → t.get j = some v → ∃ x, xs[j]? = some x ∧ VR φ v x
  | .bytes c => c < 256 ^ n ∧ xs.take n = (dec n c).map byteVal
  | _ => False
theorem DatOf.holds {φ : Phi} {n : Nat} {d : Dat} {c : Array Value} {w : World} {b : Nat} {elem : TypeId} {fr : Nat × Nat} (h : DatOf φ n d c.toList) (hb : w.heap[b]? = some (.cells c elem fr)) (hf : Open fr c.size) :
    Holds φ w ⟨b, 0, c.size⟩ n d := by
  obtain ⟨hn, h⟩ := h
  have hn' : n ≤ c.size := by simpa using hn
  cases d with
  | cells t => exact ⟨c, elem, fr, hb, rfl, hf, by simpa using hn', fun j v hj hv => by simpa using h j v hj hv⟩
  | bytes cd => exact ⟨c, elem, fr, hb, rfl, hf, by simpa using hn', h.1, by simpa using h.2⟩
  | map _ _ => exact h.elim
  | mit _ _ _ _ => exact h.elim
  | lrec _ _ _ _ _ _ _ => exact h.elim
theorem Below.of_push {B : Bd} {w w' : World} (hB : B.lo ≤ w.heap.size) {o : Obj} (hh : w'.heap = w.heap.push o) (ho : w'.os = w.os) (ht : w'.tape = w.tape) (hu : w'.output = w.output) : Below B w w' :=
  ⟨⟨ho, ht, hu, by rw [hh]; simp, fun k hk => by rw [hh, Array.getElem?_push, if_neg (by omega)]⟩, fun r ds h => by
    have := (Array.getElem?_eq_some_iff.1 h).1
    rw [hh, Array.getElem?_push, if_neg (by omega)]; exact h⟩
theorem Below.of_set {B : Bd} {w w' : World} {x : Nat} {o : Obj} (hB : B.lo ≤ x) (ho : w'.os = w.os) (ht : w'.tape = w.tape) (hu : w'.output = w.output) (hs : w'.heap.size = w.heap.size)
    (hh : ∀ y, y ≠ x → w'.heap[y]? = w.heap[y]?) (hx : w.heap[x]? = some o) (hn : ∀ ds : Option (List Deferred), o ≠ .deferred ds) : Below B w w' :=
  ⟨⟨ho, ht, hu, by rw [hs]; exact Nat.le_refl _, fun k hk => hh k (by omega)⟩, fun r ds h => by
    have hne : r ≠ x := fun e => by subst e; rw [hx] at h; simp only [Option.some.injEq] at h; exact hn ds h
    rw [hh r hne]; exact h⟩
theorem al_cells {P : Program} {B : Bd} {φ : Phi} {h h2 : H} {w : World} {n : Nat} {d : Dat} {o : Oper} {ρ : Operand → Value} {x : Value} {w' : World} {c : Array Value} {elem : TypeId} {fr : Nat × Nat} {v : V} {one : Bool}
    (hr : HR B φ h2 w) (hn : φ h.next = none ∧ B.U h.next = none) (hb : h2.bl.get h.next = some ⟨h.next, 0, n, d, some (elem, one)⟩) (hg : h2.gr.get h.next = none) (hd : DatOf φ n d c.toList)
    (hrun : (execOp ρ o).run P w = .ok (.value x) w') (hh : w'.heap = w.heap.push (.cells c elem fr)) (ho : w'.os = w.os) (ht : w'.tape = w.tape) (hu : w'.output = w.output) (hf : Open fr c.size)
    (hv : VR (φ.put h.next ⟨w.heap.size, 0, c.size⟩) v x) (hone : one = true → c.size = n := by simp) :
    ∃ x w' L, (execOp ρ o).run P w = .ok (.value x) w' ∧ VR (φ.put h.next L) v x ∧ HR B (φ.put h.next L) h2 w' ∧ Below B w w' := by
  refine ⟨x, w', ⟨w.heap.size, 0, c.size⟩, hrun, hv, ?_, Below.of_push hr.size hh ho ht hu⟩
  refine hr.mapped hn.2 hn.1 hb (fun G hG => ?_) (fun _ => rfl) hh (fun e he => ⟨c, fr, by simp only [Option.some.injEq] at he; rw [← he], fun h1 => hone (by simp only [Option.some.injEq] at he; rw [← he] at h1; exact h1)⟩) ?_
  · simp only [] at hG; rw [hg] at hG; exact absurd hG (by simp)
  · exact hd.holds (elem := elem) (fr := fr) (by rw [hh]; simp) hf
theorem open00 (n : Nat) : Open (0, 0) n := fun o _ h => by simp at h
noncomputable def listK (l : List V) : Nat → T V → (T V → Bool) → Bool :=
  List.rec (motive := fun _ => Nat → T V → (T V → Bool) → Bool) (fun _ t K => K t) (fun a _ ih i t K => t.setK i a fun t => natK (Nat.succ i) fun i => ih i t K) l
theorem listK_true : ∀ {l : List V} {i : Nat} {t : T V} {K : T V → Bool}, listK l i t K = true → ∃ s, (∀ j, s.get j = if i ≤ j ∧ j < i + l.length then l[j - i]? else t.get j) ∧ K s = true
  | [], i, t, K, h => ⟨t, fun j => by rw [if_neg (by simp)], h⟩
  | a :: l, i, t, K, h => by
    have h' : (t.setK i a fun t => natK (Nat.succ i) fun i => listK l i t K) = true := h
    obtain ⟨s, hs, h1⟩ := T.setK_true _ _ _ _ h'
    rw [natK_eq] at h1
    obtain ⟨u, hu, h2⟩ := listK_true h1
    refine ⟨u, fun j => ?_, h2⟩
    rw [hu, hs]
    simp only [List.length_cons, Nat.succ_eq_add_one]
    by_cases h1 : i + 1 ≤ j ∧ j < i + 1 + l.length
    · rw [if_pos h1, if_pos (by omega), show j - i = (j - (i + 1)) + 1 by omega, List.getElem?_cons_succ]
    · rw [if_neg h1]
      by_cases h2 : j = i
      · subst h2; rw [if_pos rfl, if_pos (by omega)]; simp
      · rw [if_neg h2, if_neg (by omega)]
theorem datOf_list {φ : Phi} {l : List V} {xs : List Value} {t : T V} {n : Nat} (h : VRs φ l xs) (ht : ∀ j, t.get j = if 0 ≤ j ∧ j < 0 + l.length then l[j - 0]? else (T.nil : T V).get j) (hn : n = l.length) : DatOf φ n (.cells t) xs := by
  subst hn
  refine ⟨Nat.le_of_eq h.length, fun j v hj hv => ?_⟩
  rw [ht, if_pos ⟨Nat.zero_le _, by omega⟩] at hv
  exact h.get hv
noncomputable def rowNewK (ty : TypeId × Bool) (l : List V) (h : H) (K : Nat → H → Bool) : Bool := lenK l 0 fun n => listK l 0 .nil fun t => addK h n (.cells t) (some ty) fun h' => K n h'
theorem rowNewK_true {ty : TypeId × Bool} {l : List V} {h : H} {K : Nat → H → Bool} (hk : rowNewK ty l h K = true) : ∃ t h', Added h ⟨h.next, 0, l.length, .cells t, some ty⟩ h' ∧ K l.length h' = true ∧
    ∀ (φ : Phi) (xs : List Value), VRs φ l xs → DatOf φ l.length (.cells t) xs := by
  unfold rowNewK at hk
  rw [lenK_eq, Nat.zero_add] at hk
  obtain ⟨t, ht, h1⟩ := listK_true hk
  obtain ⟨h', ha, h2⟩ := addK_true h1
  exact ⟨t, h', ha, h2, fun φ xs hx => datOf_list hx ht rfl⟩
noncomputable def byteK (v : V) (K : Nat → Bool) : Bool := match v with | .int .u8 (.ofNat b) => bif Nat.blt b 256 then K b else false | _ => false
theorem byteK_true {v : V} {K : Nat → Bool} (h : byteK v K = true) : ∃ b, v = .int .u8 (.ofNat b) ∧ b < 256 ∧ K b = true ∧ ∀ K', byteK v K' = K' b := by
  unfold byteK at h
  split at h
  · obtain ⟨h1, h2⟩ := bif_true h
    exact ⟨_, rfl, blt_iff.1 h1, h2, fun K' => by unfold byteK; simp only [h1, cond_true]⟩
  · exact absurd h (by simp)
noncomputable def packK (l : List V) : Nat → (Nat → Bool) → Bool :=
  List.rec (motive := fun _ => Nat → (Nat → Bool) → Bool) (fun c K => K c)
    (fun v _ ih c K => byteK v fun b => natK (c * 256 + b) fun c => ih c K) l
theorem packK_true {φ : Phi} : ∀ {l : List V} {c m : Nat} {xs : List Value} {K : Nat → Bool}, c < 256 ^ m → VRs φ l xs → packK l c K = true → ∃ c', K c' = true ∧ c' < 256 ^ (m + l.length) ∧ (dec (m + l.length) c').map byteVal = (dec m c).map byteVal ++ xs
  | [], c, m, xs, K, hc, hv, h => by cases hv; exact ⟨c, h, by simpa using hc, by simp⟩
  | v :: l, c, m, xs, K, hc, hv, h => by
    cases hv with | @cons _ x _ ys hx hxs =>
    have h' : (byteK v fun b => natK (c * 256 + b) fun c => packK l c K) = true := h
    obtain ⟨b, rfl, hb, h2, _⟩ := byteK_true h'
    · rw [natK_eq] at h2
      have := hx.int_inv; subst this
      obtain ⟨c', h3, h4, h5⟩ := packK_true (m := m + 1) (by rw [Nat.pow_succ]; omega) hxs h2
      refine ⟨c', h3, by rw [List.length_cons, show m + (l.length + 1) = m + 1 + l.length by omega]; exact h4, ?_⟩
      rw [List.length_cons, show m + (l.length + 1) = m + 1 + l.length by omega, h5]
      have hd := dec_append m 1 c b (by simpa using hb)
      rw [Nat.pow_one] at hd
      rw [hd]
      have e1 : dec 1 b = [UInt8.ofNat b] := by simp [dec]
      rw [e1, List.map_append, List.append_assoc]
      congr 1
      simp [byteVal, Nat.mod_eq_of_lt hb]
noncomputable def rowNewB (ty : TypeId × Bool) (l : List V) (h : H) (K : Nat → H → Bool) : Bool := lenK l 0 fun n => packK l 0 fun c => addK h n (.bytes c) (some ty) fun h' => K n h'
theorem packK_true' : ∀ {l : List V} {c : Nat} {K : Nat → Bool}, packK l c K = true → ∃ c', K c' = true ∧ ∀ K', packK l c K' = K' c'
  | [], c, K, h => ⟨c, h, fun _ => rfl⟩
  | v :: l, c, K, h => by
    have h' : (byteK v fun b => natK (c * 256 + b) fun c => packK l c K) = true := h
    obtain ⟨b, rfl, hb, h2, hK⟩ := byteK_true h'
    rw [natK_eq] at h2
    obtain ⟨c', h3, h4⟩ := packK_true' h2
    refine ⟨c', h3, fun K' => ?_⟩
    have e : packK (V.int .u8 (.ofNat b) :: l) c K' = byteK (V.int .u8 (.ofNat b)) fun b => natK (c * 256 + b) fun c => packK l c K' := rfl
    rw [e, hK, natK_eq, h4]
theorem rowNewB_true {ty : TypeId × Bool} {l : List V} {h : H} {K : Nat → H → Bool} (hk : rowNewB ty l h K = true) : ∃ d h', Added h ⟨h.next, 0, l.length, d, some ty⟩ h' ∧ K l.length h' = true ∧
    ∀ (φ : Phi) (xs : List Value), VRs φ l xs → DatOf φ l.length d xs := by
  unfold rowNewB at hk
  rw [lenK_eq, Nat.zero_add] at hk
  obtain ⟨c, h1, h2⟩ := packK_true' hk
  obtain ⟨h', ha, h3⟩ := addK_true h1
  refine ⟨.bytes c, h', ha, h3, fun φ xs hx => ⟨Nat.le_of_eq hx.length, ?_⟩⟩
  have := packK_true (c := 0) (K := fun c' => Nat.beq c' c) (m := 0) (by simp) hx (by rw [h2]; simp)
  obtain ⟨c', h4, h5, h6⟩ := this
  have h4 := Nat.eq_of_beq_eq_true h4; subst h4
  simp only [Nat.zero_add] at h5 h6
  refine ⟨h5, ?_⟩
  rw [h6]
  simp only [dec, List.map_nil, List.nil_append]
  rw [List.take_of_length_le (Nat.le_of_eq hx.length.symm)]
noncomputable def newK (bytes : Bool) (ty : TypeId × Bool) (l : List V) (h : H) (K : Nat → H → Bool) : Bool := Bool.rec (motive := fun _ => Bool) (rowNewK ty l h K) (rowNewB ty l h K) bytes
theorem newK_true {bytes : Bool} {ty : TypeId × Bool} {l : List V} {h : H} {K : Nat → H → Bool} (hk : newK bytes ty l h K = true) : ∃ d h', Added h ⟨h.next, 0, l.length, d, some ty⟩ h' ∧ K l.length h' = true ∧
    ∀ (φ : Phi) (xs : List Value), VRs φ l xs → DatOf φ l.length d xs := by
  cases bytes with
  | true => exact rowNewB_true hk
  | false => obtain ⟨t, h', h1, h2, h3⟩ := rowNewK_true hk; exact ⟨.cells t, h', h1, h2, h3⟩
noncomputable def fAlloc (bytes : Bool) (ty : TypeId) (l : List V) : Al := fun vs h K => match vs with
  | [] => newK bytes (ty, true) l h fun _ h' => K (.ptr h.next 0) h'
  | _ => false
theorem fAlloc_sound {P : Program} {t : TypeId} {i : TypeInfo} {z : Value} {l : List V} (bytes : Bool) (hi : P.info? t = some i) (hz : i.zero = some z) (hl : ∀ φ, VRs φ l z.cells.toList) : AlSound P (.alloc t) (fAlloc bytes t l) := by
  intro o ho vs h K hk
  unfold fAlloc at hk
  split at hk
  · obtain ⟨d, h', ha, h2, h3⟩ := newK_true hk
    refine ⟨_, _, h', ha, h2, fun B φ h2 w ρ hr hv hn hb hg => ?_⟩
    refine al_cells (fr := (0, 0)) (elem := t) hr hn hb hg (h3 φ z.cells.toList (hl φ)) (w' := { w with heap := w.heap.push (.cells z.cells t) }) (x := .pointer (some ⟨w.heap.size, 0, none⟩)) ?_ rfl rfl rfl rfl (open00 _) ?_ ?_
    · simp only [execOp, ho, Instr.alloc, Sem.run_bind, run_zeroValue hi hz, Result.andThen_ok, newVar, newRow, run_newObj, Sem.run_pure]
    · have := VR.ptr (φ := φ.put h.next ⟨w.heap.size, 0, z.cells.size⟩) (off := 0) (Phi.put_self φ h.next ⟨w.heap.size, 0, z.cells.size⟩)
      simpa using this
    · intro _; have := (hl φ).length; simpa using this.symm
  · exact absurd hk (by simp)
noncomputable def fBox (bytes : Bool) (ty : TypeId) : Al := fun vs h K => match vs with
  | [v] => newK bytes (ty, true) (cellsV v) h fun _ h' => K (.ptr h.next 0) h'
  | _ => false
theorem fBox_sound {P : Program} {t : TypeId} {x : Operand} (bytes : Bool) : AlSound P (.box t x) (fBox bytes t) := by
  intro o ho vs h K hk
  unfold fBox at hk
  split at hk
  · rename_i v
    obtain ⟨d, h', ha, h2, h3⟩ := newK_true hk
    refine ⟨_, _, h', ha, h2, fun B φ h2 w ρ hr hv hn hb hg => ?_⟩
    obtain ⟨p, e, hp⟩ := hv.one
    simp only [Op.operands, List.map_cons, List.map_nil, List.cons.injEq, and_true] at e
    refine al_cells (fr := (0, 0)) (elem := t) hr hn hb hg (h3 φ p.cells.toList hp.cells) (w' := { w with heap := w.heap.push (.cells p.cells t) }) (x := .pointer (some ⟨w.heap.size, 0, none⟩)) ?_ rfl rfl rfl rfl (open00 _) ?_ ?_
    · simp only [execOp, ho, e, Instr.box, Sem.run_bind, Result.andThen_ok, newVar, newRow, run_newObj, Sem.run_pure]
    · have := VR.ptr (φ := φ.put h.next ⟨w.heap.size, 0, p.cells.size⟩) (off := 0) (Phi.put_self φ h.next ⟨w.heap.size, 0, p.cells.size⟩)
      simpa using this
    · intro _; have := hp.cells.length; simpa using this.symm
  · exact absurd hk (by simp)
theorem fold_size (off : Nat) : ∀ (q : List (Value × Nat)) (c : Array Value), (q.foldl (fun cs (x : Value × Nat) => cs.setIfInBounds (off + x.2) x.1) c).size = c.size
  | [], c => rfl
  | a :: q, c => by rw [List.foldl_cons, fold_size off q]; simp
noncomputable def fBSlice (bytes : Bool) (ty : TypeId) (e n : Nat) (z : List V) (ps : List (Nat × Nat)) : Al := fun vs h K => fillK ps vs z fun l => newK bytes (ty, false) l h fun _ h' => K (.slice h.next 0 n e (some n)) h'
theorem fBSlice_sound {P : Program} {t el : TypeId} {n : Nat} {parts : Array (Nat × Operand)} {ie : TypeInfo} {zero : List V} {ps : List (Nat × Nat)} {z : Value} (bytes : Bool)
    (hu : P.underlying t = some (.slice el)) (hie : P.info? el = some ie) (hz : ie.zero = some z) (hsz : n * ie.size ≤ 2 ^ 24) (hne : n * ie.size ≠ 0)
    (hzv : ∀ φ, VRs φ zero (((Array.range (n * ie.size)).map (z.cells[· % z.cells.size]!)).toList)) (hlen : zero.length = n * ie.size)
    (hps : (parts.toList.map (·.1)).map (fun j => some (j * ie.size, ie.size)) = ps.map some) : AlSound P (.buildSlice t n parts) (fBSlice bytes el ie.size n zero ps) := by
  intro o ho vs h K hk
  unfold fBSlice at hk
  obtain ⟨l', hk, hdet⟩ := fillK_det hk
  obtain ⟨d, h', ha, h2, h3⟩ := newK_true hk
  refine ⟨_, _, h', ha, h2, fun B φ h2 w ρ hr hv hn hb hg => ?_⟩
  simp only [Op.operands] at hv
  rw [build_operands] at hv
  have hfs := fillK_sound (K := fun s => @decide (s = l') (Classical.propDecidable _)) (place := fun j => some (j * ie.size, ie.size)) hps hv (hzv φ) (by rw [hdet]; simp)
  obtain ⟨c', l'', h4, h5, h6⟩ := hfs
  have h6 : l'' = l' := by simpa using h6
  subst h6
  refine al_cells (fr := (0, 0)) (elem := el) hr hn hb hg (h3 φ c'.toList h5) (w' := { w with heap := w.heap.push (.cells c' el) }) (x := .slice (some ⟨w.heap.size, 0, none⟩) n n) ?_ rfl rfl rfl rfl (open00 _) ?_
  · simp only [execOp, ho, Instr.buildSlice, Sem.run_bind, run_underlying hu, Result.andThen_ok, run_sizeOf hie]
    rw [if_neg (by omega), if_neg hne]
    simp only [Sem.run_pure, Result.andThen_ok, Sem.run_bind, run_zeroValue hie hz, parts_zip, h4, newRow, run_newObj]
  · have hc : c'.size = n * ie.size := by
      have h7 := h5.length
      have h8 : ∀ {place : Nat → Option (Nat × Nat)} (ps : List (Nat × Value)) (c c' : Array Value), Instr.fill place c ps = some c' → c'.size = c.size := by
        intro place ps
        induction ps with
        | nil => intro c c' h; simp [Instr.fill] at h; rw [h]
        | cons p ps ih =>
          intro c c' h
          obtain ⟨i, v⟩ := p
          simp only [Instr.fill] at h
          split at h
          · exact absurd h (by simp)
          · split at h
            · exact absurd h (by simp)
            · rw [ih _ _ h, ← Array.foldl_toList]
              exact fold_size _ _ _
      rw [h8 _ _ _ h4]; simp
    have := VR.slice (φ := φ.put h.next ⟨w.heap.size, 0, c'.size⟩) (b := h.next) (off := 0) (len := n) (e := ie.size) (cap := n) (oc := some n) (Phi.put_self φ h.next ⟨w.heap.size, 0, c'.size⟩) (by simp only []; omega) (Nat.le_refl n) (fun c hc => by simpa using hc)
    simpa using this
noncomputable def fMkMap : Al := fun vs h K => addK h 0 (.map [] 0) none fun h' => K (.map h.next) h'
theorem fMkMap_sound {P : Program} {t : TypeId} : AlSound P (.makeMap t none) fMkMap := by
  intro o ho vs h K hk
  unfold fMkMap at hk
  obtain ⟨h', ha, h2⟩ := addK_true hk
  refine ⟨_, _, h', ha, h2, fun B φ h2 w ρ hr hv hn hb hg => ?_⟩
  refine ⟨.map (some w.heap.size), { w with heap := w.heap.push (.map #[] 0) }, ⟨w.heap.size, 0, 0⟩, ?_, .map (Phi.put_self _ _ _), ?_, Below.of_push hr.size rfl rfl rfl rfl⟩
  · simp only [execOp, ho, Instr.makeMap, Option.map_none, Sem.run_bind, run_newObj, Result.andThen_ok, Sem.run_pure]
  · refine hr.mapped hn.2 hn.1 hb (fun G hG => ?_) (fun _ => rfl) rfl (fun e he => absurd he (by simp)) ?_
    · simp only [] at hG; rw [hg] at hG; exact absurd hG (by simp)
    · exact ⟨#[], by simp, .nil⟩
noncomputable def zerosK (z : List V) (n : Nat) : (List V → Bool) → Bool :=
  Nat.rec (motive := fun _ => (List V → Bool) → Bool) (fun K => K []) (fun _ ih K => ih fun l => K (z ++ l)) n
end Go.Ev
end
