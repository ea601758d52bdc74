/- Part of the proof that card_holds ends in: an evaluator of closed runs over abstract memories, and that what it says holds of the model. -/
import Derived.Test.YtkobceanlhlmcaaGreatDoorA04
import Derived.Lib.UnsafeStr
import Derived.Lib.Builder
set_option linter.all false
section
namespace Go.Ev
theorem HR0.killed {B : Nat} {φ : Phi} {h h' : H} {w w' : World} {b m : Nat} {k : Blk} {L : Loc} (hr : HR0 B φ h w) (hb : h.bl.get b = some k) (hl : Live h b k) (hL : φ b = some L)
    (hn : h'.next = h.next) (hbl : h'.bl = h.bl) (hgr : ∀ j, h'.gr.get j = if j = k.g then some ⟨h.next, m, h.next⟩ else h.gr.get j) (hs : w'.heap.size = w.heap.size) (ho : ∀ x, x ≠ L.blk → w'.heap[x]? = w.heap[x]?)
    (hel : ∀ c e fr, w.heap[L.blk]? = some (.cells c e fr) → ∃ c' fr', w'.heap[L.blk]? = some (.cells c' e fr') ∧ c'.size = c.size) : HR0 B φ h' w' := by
  have hlive : ∀ x Lx kx, φ x = some Lx → h.bl.get x = some kx → Live h' x kx → Live h x kx ∧ kx.g ≠ k.g := by
    intro x Lx kx hx hk hlx
    by_cases e : kx.g = k.g
    · have h1 := hlx ⟨h.next, m, h.next⟩ (by rw [e, hgr, if_pos rfl])
      have := (hr.dom x Lx hx).1
      simp only [] at h1; omega
    · exact ⟨fun G hG => hlx G (by rw [hgr, if_neg e]; exact hG), e⟩
  refine ⟨by rw [hs]; exact hr.size, fun x Lx hx => by rw [hn, hs]; exact hr.dom x Lx hx, ?_, ?_, ?_, ?_, ?_, ?_, ?_, ?_, ?_, ?_⟩
  · intro x Lx kx hx hk hlx
    rw [hbl] at hk
    obtain ⟨h1, h2⟩ := hlive x Lx kx hx hk hlx
    exact (hr.hold x Lx kx hx hk h1).heap (ho _ (hr.sep x b Lx L kx k hx hL hk hb h1 hl h2))
  · intro x y Lx Ly kx ky hx hy hkx hky hlx hly hg
    rw [hbl] at hkx hky
    exact hr.sep x y Lx Ly kx ky hx hy hkx hky (hlive x Lx kx hx hkx hlx).1 (hlive y Ly ky hy hky hly).1 hg
  · intro x y Lx Ly kx ky hx hy hkx hky hlx hly hg hbk
    rw [hbl] at hkx hky
    exact hr.aln x y Lx Ly kx ky hx hy hkx hky (hlive x Lx kx hx hkx hlx).1 (hlive y Ly ky hy hky hly).1 hg hbk
  · intro x Lx kx G hx hk hlx hG
    rw [hbl] at hk
    obtain ⟨h1, h2⟩ := hlive x Lx kx hx hk hlx
    rw [hgr, if_neg h2] at hG
    exact hr.reach x Lx kx G hx hk h1 hG
  · intro x kx G hk hG
    rw [hbl] at hk
    rw [hgr] at hG
    by_cases e : kx.g = k.g
    · rw [if_pos e] at hG; simp only [Option.some.injEq] at hG; subst hG
      exact Nat.le_of_lt (hr.fresh x kx hk)
    · rw [if_neg e] at hG; exact hr.last x kx G hk hG
  · intro x Lx kx hx hk hG
    rw [hbl] at hk
    rw [hgr] at hG
    by_cases e : kx.g = k.g
    · rw [if_pos e] at hG; exact absurd hG (by simp)
    · rw [if_neg e] at hG; exact hr.lone x Lx kx hx hk hG
  · intro x kx hk; rw [hbl] at hk; rw [hn]; exact hr.grp x kx hk
  · intro x kx hk; rw [hbl] at hk; rw [hn]; exact hr.fresh x kx hk
  · intro g x hx
    rw [hgr] at hx
    rw [hn]
    by_cases e : g = k.g
    · subst e; exact hr.grp b k hb
    · rw [if_neg e] at hx; exact hr.grn g x hx
  · intro x Lx kx e hx hk ht
    rw [hbl] at hk
    obtain ⟨c, fr, h1, h2⟩ := hr.elt x Lx kx e hx hk ht
    by_cases eb : Lx.blk = L.blk
    · obtain ⟨c', fr', h3, h4⟩ := hel c e.1 fr (eb ▸ h1)
      exact ⟨c', fr', eb ▸ h3, fun h => ⟨(h2 h).1, h4.trans (h2 h).2⟩⟩
    · exact ⟨c, fr, by rw [ho _ eb]; exact h1, h2⟩
theorem HR.killed {B : Bd} {φ : Phi} {h h' : H} {w w' : World} {b m : Nat} {k : Blk} {L : Loc} (hr : HR B φ h w) (hb : h.bl.get b = some k) (hl : Live h b k) (hL : φ b = some L)
    (hn : h'.next = h.next) (hbl : h'.bl = h.bl) (hgr : ∀ j, h'.gr.get j = if j = k.g then some ⟨h.next, m, h.next⟩ else h.gr.get j) (hs : w'.heap.size = w.heap.size) (ho : ∀ x, x ≠ L.blk → w'.heap[x]? = w.heap[x]?)
    (hel : ∀ c e fr, w.heap[L.blk]? = some (.cells c e fr) → ∃ c' fr', w'.heap[L.blk]? = some (.cells c' e fr') ∧ c'.size = c.size) : HR B φ h' w' :=
  ⟨hr.toHR0.killed hb hl hL hn hbl hgr hs ho hel, fun b' k' hu => by
    obtain ⟨h1, h2, h3, h4⟩ := hr.res b' k' hu
    exact ⟨h1, by rw [hbl]; exact h2, by rw [hgr, if_neg (hr.resG (h' := h') hb (by rw [hL]; simp) hu)]; exact h3, by rw [hn]; exact h4⟩⟩
noncomputable def fSData : Rd := fun vs _ K => match vs with
  | [.nils] => K .nilp
  | [.slice b off len e oc] => bif Nat.beq len 0 then false else K (.ptr b off)
  | _ => false
theorem fSData_sound {P : Program} {c : Call} (hc : c.callee = .builtin .unsafeSliceData) : RdSound P (.call c) fSData := by
  intro o ho B φ h w ρ vs K hr hv hk
  unfold fSData at hk
  split at hk
  · obtain ⟨x, e, hx⟩ := args1 hc hv
    have := hx.nils_inv; subst this
    exact ⟨.nilp, .pointer none, by rw [run_builtin ho hc, e]; rfl, .nilp, hk⟩
  · rename_i b off len e oc
    obtain ⟨x, e1, hx⟩ := args1 hc hv
    cases hz : Nat.beq len 0 with
    | true => rw [hz] at hk; exact absurd hk (by simp)
    | false =>
      rw [hz] at hk
      have hl0 : len ≠ 0 := fun e => by rw [e] at hz; simp at hz
      rcases hx.slice_inv with ⟨L, cap, hL, hcs, hlen, hoc, rfl⟩ | ⟨a, L, hL, h0, hoc, rfl⟩
      · refine ⟨.ptr b off, .pointer (some ⟨L.blk, L.base + off, none⟩), ?_, .ptr hL, hk⟩
        rw [run_builtin ho hc, e1]
        have := Lib.run_unsafeSliceData_row (P := P) w c.argTypes o.type ⟨L.blk, L.base + off, none⟩ len cap (by omega)
        show ((do pure (Next.value (← Builtin.unsafeSliceData_ c.argTypes o.type #[Value.slice (some ⟨L.blk, L.base + off, none⟩) len cap])) : Sem Next)).run P w = _
        simp only [Sem.run_bind, this, Result.andThen_ok, Sem.run_pure]
      · exact absurd h0 hl0
  · exact absurd hk (by simp)
theorem liesAt_row {P : Program} {e : TypeId} (hc : P.cellsOf e = 1) (count o n : Nat) (hn : o + n ≤ count) : liesAt P P.depth e count o e n = true := by
  have hd : P.depth = (2 * (P.types.size + Made.depth) + 1) + 1 := rfl
  rw [hd]
  simp only [liesAt, Bool.or_eq_true]
  left
  rw [hd]
  simp [rowAt, hc, hn, sameLayout, Nat.mod_one]
noncomputable def killK (h : H) (k : Blk) (K : H → Bool) : Bool := h.gr.setK k.g ⟨h.next, 0, h.next⟩ fun gr => K ⟨h.next, h.bl, gr⟩
noncomputable def fUStr (el : TypeId) : Ef := fun vs h K => match vs with
  | [.nilp, .int .i64 (.ofNat n)] => bif Nat.beq n 0 then K (.str 0 0) h else false
  | [.ptr b off, .int .i64 (.ofNat n)] => Nat.rec (motive := fun _ => Bool) (K (.str 0 0) h) (fun _ _ => blkK h b fun k => (match k.d, k.ty with
      | .bytes c, some (e, _) => bif Nat.beq e el && Nat.ble (off + n) k.n && Nat.ble n 1000000 then natK (Nat.mod (Nat.shiftRight c (8 * (k.n - (off + n)))) (Nat.pow 256 n)) fun c => killK h k fun h' => K (.str n c) h' else false
      | _, _ => false)) n
  | _ => false
theorem run_unsafeString {P : Program} (w : World) (pt it ty e : TypeId) (hp : P.underlying pt = some (.pointer e)) (hc : P.cellsOf e = 1) (g o cells : Nat) (hsh : w.shape? g = some (e, cells)) (l : List UInt8) (h0 : l ≠ []) (hn : o + l.length ≤ cells) (h63 : l.length ≤ 9223372036854775807)
    (hcell : ∀ j x, l[j]? = some x → w.cell? ((⟨g, o, none⟩ : Addr).add j) = some (.int .u8 x.toNat)) :
    (Builtin.unsafeString_ #[pt, it] ty #[.pointer (some ⟨g, o, none⟩), .int .i64 l.length]).run P w = .ok (.string ⟨l.toArray⟩) (w.freeze ⟨g, o, none⟩ l.length) := by
  have hl : l.length ≠ 0 := by simpa using h0
  have hlb := Lib.run_loadBytes (P := P) w l ⟨g, o, none⟩ .empty hcell
  have hlies := liesAt_row (P := P) hc (cells / P.cellsOf e) o l.length (by rw [hc]; simpa using hn)
  have h63' : ¬ (9223372036854775807 : Int) < (l.length : Int) := by omega
  have hdef : Builtin.unsafeString_ #[pt, it] ty #[.pointer (some ⟨g, o, none⟩), .int .i64 l.length] =
      (do
        let n ← asInt (.int .i64 l.length)
        if n < 0 then runtimePanic (.error "unsafe.String: len out of range")
        if n > IntKind.i64.max then unsupported (.unsafePointer "String: a length above the largest int")
        if n = 0 then pure (.string .empty)
        else if ← variablesAt ⟨g, o, none⟩ (← elemOf pt) n.toNat then do
          let s ← loadBytes ⟨g, o, none⟩ .empty n.toNat
          freeze ⟨g, o, none⟩ n.toNat
          pure (.string s)
        else unsupported (.unsafePointer "String: not so many bytes at ptr")) := rfl
  rw [hdef]
  have hmax : IntKind.i64.max = 9223372036854775807 := rfl
  have hneg : ¬ (l.length : Int) < 0 := by omega
  simp [asInt, asIntOf, hmax, h63', hneg, hl, variablesAt, hsh, elemOf, run_underlying hp, hlies, hlb]
theorem freeze_heap {w : World} {g o n : Nat} (hn : n ≠ 0) {c : Array Value} {e : TypeId} {fr : Nat × Nat} (h : w.heap[g]? = some (.cells c e fr)) : ∃ fr', (w.freeze ⟨g, o, none⟩ n).heap[g]? = some (.cells c e fr') ∧ (∀ x, x ≠ g → (w.freeze ⟨g, o, none⟩ n).heap[x]? = w.heap[x]?) ∧
    (w.freeze ⟨g, o, none⟩ n).heap.size = w.heap.size ∧ (w.freeze ⟨g, o, none⟩ n).os = w.os ∧ (w.freeze ⟨g, o, none⟩ n).tape = w.tape ∧ (w.freeze ⟨g, o, none⟩ n).output = w.output := by
  unfold World.freeze
  rw [if_neg hn]
  obtain ⟨lo, hi⟩ := fr
  refine ⟨_, by simp only []; rw [Array.getElem?_modify, if_pos rfl, h]; rfl, fun x hx => by simp only []; rw [Array.getElem?_modify, if_neg (fun e => hx e.symm)], by simp, rfl, rfl, rfl⟩
theorem fUStr_sound {P : Program} {c : Call} {pt it el : TypeId} (hc : c.callee = .builtin .unsafeString) (ht : c.argTypes = #[pt, it]) (hp : P.underlying pt = some (.pointer el)) (hce : P.cellsOf el = 1) : EfSound P (.call c) (fUStr el) := by
  intro o ho B φ h w ρ vs K hr hv hk
  unfold fUStr at hk
  have wrap : ∀ (p q : Value), c.args.map ρ = #[p, q] → (execOp ρ o).run P w = ((Builtin.unsafeString_ #[pt, it] o.type #[p, q]).run P w).andThen fun v w' => .ok (.value v) w' := by
    intro p q e
    rw [run_builtin ho hc, e, ht]
    show ((do pure (Next.value (← Builtin.unsafeString_ #[pt, it] o.type #[p, q])) : Sem Next)).run P w = _
    simp only [Sem.run_bind, Sem.run_pure]
  split at hk
  · rename_i n
    obtain ⟨p, q, e, hp', hq⟩ := args2 hc hv
    obtain ⟨h1, hk⟩ := bif_true hk
    have := Nat.eq_of_beq_eq_true h1; subst this
    have := hq.int_inv; subst this
    cases hp'
    refine ⟨.str 0 0, h, φ, .string .empty, w, .inl ?_, Ext.refl φ, .str (by simp [dec]) (by simp), hr, Below.refl _ _, hk⟩
    rw [wrap _ _ e]
    rfl
  · rename_i b off n
    obtain ⟨p, q, e, hp', hq⟩ := args2 hc hv
    obtain ⟨L, hL, rfl⟩ := hp'.ptr_inv
    have := hq.int_inv; subst this
    cases n with
    | zero =>
      refine ⟨.str 0 0, h, φ, .string .empty, w, .inl ?_, Ext.refl φ, .str (by simp [dec]) (by simp), hr, Below.refl _ _, hk⟩
      rw [wrap _ _ e]
      rfl
    | succ n' =>
      generalize hnn : n' + 1 = n at *
      have hn0 : n ≠ 0 := by omega
      have hk : (blkK h b fun k => (match k.d, k.ty with
        | .bytes c, some (e, _) => bif Nat.beq e el && Nat.ble (off + n) k.n && Nat.ble n 1000000 then natK (Nat.mod (Nat.shiftRight c (8 * (k.n - (off + n)))) (Nat.pow 256 n)) fun c => killK h k fun h' => K (.str n c) h' else false
        | _, _ => false)) = true := by rw [← hnn] at hk ⊢; exact hk
      obtain ⟨k, hb, hl, hk1⟩ := blkK_true hk
      split at hk1
      · rename_i cd e' one hd hty
        obtain ⟨h1, hk2⟩ := bif_true hk1
        simp only [Bool.and_eq_true] at h1
        obtain ⟨⟨h1, h2⟩, h3⟩ := h1
        have := Nat.eq_of_beq_eq_true h1; subst this
        have h2 := ble_of h2; have h3 := ble_of h3
        rw [natK_eq] at hk2
        obtain ⟨gr, g1, g2⟩ := T.setK_true _ _ _ _ hk2
        have hh := hr.hold b L k hL hb hl
        rw [hd] at hh
        obtain ⟨cs, elem, fr, f1, f2, f3, f4, f5, f6⟩ := hh
        obtain ⟨c0, fr0, q1, q2⟩ := hr.elt b L k _ hL hb hty
        rw [f1] at q1; simp only [Option.some.injEq, Obj.cells.injEq] at q1
        obtain ⟨rfl, rfl, rfl⟩ := q1
        have hshp : w.shape? L.blk = some (elem, cs.size) := by unfold World.shape?; rw [f1]
        have hlst : ((dec k.n cd).take (off + n)).drop off = dec n (cd / 256 ^ (k.n - (off + n))) := by
          have := dec_slice k.n off (off + n) cd (by omega) h2
          rw [this]; congr 1; omega
        have hrun := run_unsafeString (P := P) w pt it o.type elem hp hce L.blk (L.base + off) cs.size hshp (((dec k.n cd).take (off + n)).drop off) (by
            rw [hlst]; intro hc0; have := congrArg List.length hc0; simp [dec_length] at this; omega) (by rw [hlst, dec_length]; omega) (by rw [hlst, dec_length]; omega) (fun j x hj => by
            rw [addr_add', cell_of f1]
            have hj' : j < n := by have := (List.getElem?_eq_some_iff.1 hj).1; rw [hlst, dec_length] at this; exact this
            rw [List.getElem?_drop, List.getElem?_take, if_pos (by omega)] at hj
            have h7 := congrArg (fun l => l[off + j]?) f6
            simp only [List.getElem?_take, List.getElem?_drop, List.getElem?_map] at h7
            rw [if_pos (by omega), hj] at h7
            rw [Nat.add_assoc, ← Array.getElem?_toList]
            simpa [byteVal] using h7)
        rw [hlst, dec_length] at hrun
        obtain ⟨fr', z1, z2, z3, z4, z5, z6⟩ := freeze_heap (o := L.base + off) hn0 f1
        have hkill : HR B φ ⟨h.next, h.bl, gr⟩ (w.freeze ⟨L.blk, L.base + off, none⟩ n) := hr.killed (h' := ⟨h.next, h.bl, gr⟩) hb hl hL rfl rfl g1 z3 z2 (fun c e0 fr0 hc0 => by
          rw [f1] at hc0; simp only [Option.some.injEq, Obj.cells.injEq] at hc0
          obtain ⟨rfl, rfl, rfl⟩ := hc0
          exact ⟨cs, fr', z1, rfl⟩)
        refine ⟨_, _, φ, _, _, .inl (by rw [wrap _ _ e, show (Value.int IntKind.i64 (Int.ofNat n)) = .int .i64 (n : Nat) from rfl, hrun]; rfl), Ext.refl φ, ?_, hkill, Below.of_set (hr.dom b L hL).2.1 z4 z5 z6 z3 z2 f1 (fun ds e => by cases e), g2⟩
        have hm : Nat.mod (Nat.shiftRight cd (8 * (k.n - (off + n)))) (Nat.pow 256 n) = cd / 256 ^ (k.n - (off + n)) % 256 ^ n := by
          rw [shr_eq]; rfl
        rw [hm]
        refine .str ?_ (Nat.mod_lt _ (Nat.pow_pos (by decide)))
        rw [dec_mod]
      · exact absurd hk1 (by simp)
  · exact absurd hk (by simp)
end Go.Ev
end
section
namespace Go.Ev
noncomputable def fToUn : Rd := fun vs h K => match vs with
  | [.nilp] => K .nilp
  | [.ptr b off] => blkK h b fun k => bif !k.d.isMap && Nat.blt off k.n then K (.ptr b off) else false
  | _ => false
theorem fToUn_sound {P : Program} {s t el : TypeId} {x : Operand} {j : TypeInfo} (hs : P.underlying s = some (.pointer el)) (ht : P.underlying t = some .unsafePointer) (hi : P.info? el = some j) (hz : j.size ≠ 0) : RdSound P (.convert s t x) fToUn := by
  intro o ho B φ h w ρ vs K hr hv hk
  unfold fToUn at hk
  split at hk
  · obtain ⟨p, e, hp⟩ := hv.one
    simp only [Op.operands, List.map_cons, List.map_nil, List.cons.injEq, and_true] at e
    cases hp
    refine ⟨.nilp, .pointer none, ?_, .nilp, hk⟩
    simp only [execOp, ho, e, convert, Sem.run_bind, run_underlying hs, run_underlying ht, Result.andThen_ok]
    simp [Conv.unsafePointer, run_underlying hs, run_underlying ht]
  · rename_i b off
    obtain ⟨p, e, hp⟩ := hv.one
    simp only [Op.operands, List.map_cons, List.map_nil, List.cons.injEq, and_true] at e
    obtain ⟨L, hL, rfl⟩ := hp.ptr_inv
    obtain ⟨k, hb, hl, h1⟩ := blkK_true hk
    obtain ⟨h2, h3⟩ := bif_true h1
    obtain ⟨h2, h4⟩ := Bool.and_eq_true_iff.1 h2
    obtain ⟨c, elem, fr, g1, g2, g3, g4⟩ := (hr.hold b L k hL hb hl).cells (by simpa using h2)
    have h4 := blt_iff.1 h4
    refine ⟨.ptr b off, _, ?_, hp, h3⟩
    have hrun := Lib.run_to_unsafe (P := P) (w := w) (src := s) (dst := t) (e := elem) (cells := c.size) ⟨L.blk, L.base + off, none⟩ hs ht hi hz (by unfold World.shape?; simp only []; rw [g1]) (by simp only []; omega)
    simp only [execOp, ho, e, Sem.run_bind, hrun, Result.andThen_ok, Sem.run_pure]
  · exact absurd hk (by simp)
noncomputable def fFromUn (lies : TypeId → Nat → Nat → Bool) : Rd := fun vs h K => match vs with
  | [.nilp] => K .nilp
  | [.ptr b off] => blkK h b fun k => (match k.ty with | some (e, true) => bif lies e k.n off then K (.ptr b off) else false | _ => false)
  | _ => false
theorem fFromUn_sound {P : Program} {s t u : TypeId} {x : Operand} {j : TypeInfo} (hs : P.underlying s = some .unsafePointer) (ht : P.underlying t = some (.pointer u)) (hi : P.info? u = some j) : RdSound P (.convert s t x) (fFromUn fun e n off => liesAt P P.depth e (n / P.cellsOf e) off u 1) := by
  intro o ho B φ h w ρ vs K hr hv hk
  unfold fFromUn at hk
  split at hk
  · obtain ⟨p, e, hp⟩ := hv.one
    simp only [Op.operands, List.map_cons, List.map_nil, List.cons.injEq, and_true] at e
    cases hp
    refine ⟨.nilp, .pointer none, ?_, .nilp, hk⟩
    simp only [execOp, ho, e, convert, Sem.run_bind, run_underlying hs, run_underlying ht, Result.andThen_ok]
    simp [Conv.unsafePointer, run_underlying hs, run_underlying ht]
  · rename_i b off
    obtain ⟨p, e, hp⟩ := hv.one
    simp only [Op.operands, List.map_cons, List.map_nil, List.cons.injEq, and_true] at e
    obtain ⟨L, hL, rfl⟩ := hp.ptr_inv
    obtain ⟨k, hb, hl, h1⟩ := blkK_true hk
    split at h1
    · rename_i e' hty
      obtain ⟨h2, h3⟩ := bif_true h1
      obtain ⟨c, fr, g1, g2⟩ := hr.elt b L k _ hL hb hty
      obtain ⟨g3, g4⟩ := g2 rfl
      refine ⟨.ptr b off, _, ?_, hp, h3⟩
      have hrun := Lib.run_from_unsafe (P := P) (w := w) (src := s) (dst := t) (e := e') (cells := c.size) ⟨L.blk, L.base + off, none⟩ hs ht hi (by unfold World.shape?; simp only []; rw [g1]) (by simp only [g3, Nat.zero_add, g4]; exact h2)
      simp only [execOp, ho, e, Sem.run_bind, hrun, Result.andThen_ok, Sem.run_pure]
    · exact absurd h1 (by simp)
  · exact absurd hk (by simp)
noncomputable def fAssert (t : TypeId) : Rd := fun vs _ K => match vs with
  | [.iface u v] => bif Nat.beq u t then K v else false
  | _ => false
theorem fAssert_sound {P : Program} {x : Operand} {s t : TypeId} {d : TypeDesc} (ht : P.underlying t = some d) (hd : ∀ m, d ≠ .interface m) : RdSound P (.typeAssert x s t false) (fAssert t) := by
  intro o ho B φ h w ρ vs K hr hv hk
  unfold fAssert at hk
  split at hk
  · rename_i u v
    obtain ⟨p, e, hp⟩ := hv.one
    simp only [Op.operands, List.map_cons, List.map_nil, List.cons.injEq, and_true] at e
    obtain ⟨h1, h2⟩ := bif_true hk
    have := Nat.eq_of_beq_eq_true h1; subst this
    cases hp with | @iface _ _ y hy =>
    refine ⟨v, y, ?_, hy, h2⟩
    have hrun : (Instr.typeAssert (.iface u y) s u false).run P w = .ok y w := by
      unfold Instr.typeAssert
      simp only [Sem.run_bind, run_underlying ht, Result.andThen_ok]
      cases d <;> first | exact absurd rfl (hd _) | (simp)
    simp only [execOp, ho, e, Sem.run_bind, hrun, Result.andThen_ok, Sem.run_pure]
  · exact absurd hk (by simp)
end Go.Ev
end
section
namespace Go.Ev
noncomputable def minK (n m : Nat) (K : Nat → Bool) : Bool := natK (bif Nat.ble n m then n else m) K
theorem minK_eq (n m : Nat) (K : Nat → Bool) : minK n m K = K (Nat.min n m) := by
  unfold minK; rw [natK_eq, min_eq]
noncomputable def posK (m : Nat) (Z X : Bool) : Bool := Nat.rec (motive := fun _ => Bool) Z (fun _ _ => X) m
theorem posK_true {m : Nat} {Z X : Bool} (h : posK m Z X = true) : (m = 0 ∧ Z = true) ∨ (m ≠ 0 ∧ X = true) := by
  cases m with
  | zero => exact .inl ⟨rfl, h⟩
  | succ m => exact .inr ⟨by omega, h⟩
noncomputable def fCopy2 (z : Nat) : Ef := fun vs h K => match vs with
  | [.nils, .nils] => K (.int .i64 (.ofNat 0)) h
  | [.nils, .str _ _] => K (.int .i64 (.ofNat 0)) h
  | [.nils, .slice _ _ _ _ _] => K (.int .i64 (.ofNat 0)) h
  | [.slice _ _ _ _ _, .nils] => K (.int .i64 (.ofNat 0)) h
  | [.slice b off len e _, .str n c] => minK n len fun m => posK m (K (.int .i64 (.ofNat 0)) h) (bif Nat.beq e 1 && Nat.beq z 1 then natK (Nat.shiftRight c (8 * (n - m))) fun c => decK m c fun l => putK h b off l fun h' => K (.int .i64 (.ofNat m)) h' else false)
  | [.slice b off len e _, .slice b2 off2 n e2 _] => minK n len fun m => posK m (K (.int .i64 (.ofNat 0)) h) (bif Nat.beq e z && Nat.beq e2 z then blkK h b2 fun k => bif Nat.ble (off2 + m * z) k.n then rowK k.n k.d (m * z) off2 fun l => putK h b off l fun h' => K (.int .i64 (.ofNat m)) h' else false else false)
  | _ => false
theorem run_copy {P : Program} {ts : Array TypeId} {ty t el : TypeId} {ie : TypeInfo} {w : World} {base : Option Addr} {len cap n : Nat} {x : Value} {xs : Array Value} (h0 : ts[0]? = some t) (hu : P.underlying t = some (.slice el)) (hi : P.info? el = some ie)
    (h1 : (Builtin.lenOf x).run P w = .ok n w) (h2 : (Builtin.firstCells ie.size (Nat.min n len) x).run P w = .ok xs w) :
    (Builtin.copy_ ts ty #[.slice base len cap, x]).run P w = ((match base with | some a => storeCells a xs.toList | none => pure ()).run P w).andThen fun _ w' => .ok (.int .i64 (.ofNat (Nat.min n len))) w' := by
  unfold Builtin.copy_
  simp only [h0, List.getElem?_toArray, List.getElem?_cons_zero, List.getElem?_cons_succ, Sem.run_bind, run_underlying hu, Result.andThen_ok, h1, run_sizeOf hi, h2]
  cases base with
  | none => rfl
  | some a =>
    simp only []
    cases hq : (storeCells a xs.toList).run P w with
    | ok u w' => simp only [Sem.run_bind, hq, Result.andThen_ok, Sem.run_pure]; rfl
    | halt hh w' => simp [Sem.run_bind, hq, Result.andThen]
theorem fCopy2_sound {P : Program} {c : Call} {t el : TypeId} {ie : TypeInfo} (hc : c.callee = .builtin .copy) (h0 : c.argTypes[0]? = some t) (hu : P.underlying t = some (.slice el)) (hi : P.info? el = some ie) : EfSound P (.call c) (fCopy2 ie.size) := by
  intro o ho B φ h w ρ vs K hr hv hk
  have wrap : ∀ (p q : Value), c.args.map ρ = #[p, q] → (execOp ρ o).run P w = ((Builtin.copy_ c.argTypes o.type #[p, q]).run P w).andThen fun v w' => .ok (.value v) w' := by
    intro p q e
    rw [run_builtin ho hc, e]
    show ((do pure (Next.value (← Builtin.copy_ c.argTypes o.type #[p, q])) : Sem Next)).run P w = _
    simp only [Sem.run_bind, Sem.run_pure]
  have none_ : ∀ (base : Option Addr) (len cap n : Nat) (q : Value), c.args.map ρ = #[.slice base len cap, q] → (Builtin.lenOf q).run P w = .ok n w → Nat.min n len = 0 → (Builtin.firstCells ie.size 0 q).run P w = .ok #[] w → K (.int .i64 (.ofNat 0)) h = true →
      ∃ v h' φ' x w', ((execOp ρ o).run P w = .ok (.value x) w' ∨ (x = undef ∧ (execOp ρ o).run P w = .ok .skip w')) ∧ Ext φ φ' ∧ VR φ' v x ∧ HR B φ' h' w' ∧ Below B w w' ∧ K v h' = true := by
    intro base len cap n q e h1 h2 h3 hK
    refine ⟨_, h, φ, _, w, .inl ?_, Ext.refl φ, .int _ _, hr, Below.refl _ _, hK⟩
    rw [wrap _ _ e, run_copy h0 hu hi h1 (by rw [h2]; exact h3), h2]
    cases base <;> rfl
  have fc0 : ∀ q : Value, (∃ s, q = .string s) ∨ (∃ b l c, q = .slice b l c) → (Builtin.firstCells ie.size 0 q).run P w = .ok #[] w := by
    rintro q (⟨s, rfl⟩ | ⟨b, l, c, rfl⟩)
    · simp only [Builtin.firstCells, Sem.run_pure]
      congr 1
      apply Array.ext'
      simp [ByteArray.data_extract]
    · cases b with
      | none => rfl
      | some a => simp [Builtin.firstCells, loadCells, loadCellsFrom, Sem.run_pure]
  have some_ : ∀ (b off len : Nat) (cap : Nat) (L : Loc) (n : Nat) (q : Value) (l : List V) (xs : Array Value), φ b = some L → c.args.map ρ = #[.slice (some ⟨L.blk, L.base + off, none⟩) len cap, q] → (Builtin.lenOf q).run P w = .ok n w →
      (Builtin.firstCells ie.size (Nat.min n len) q).run P w = .ok xs w → VRs φ l xs.toList → (putK h b off l fun h' => K (.int .i64 (.ofNat (Nat.min n len))) h') = true →
      ∃ v h' φ' x w', ((execOp ρ o).run P w = .ok (.value x) w' ∨ (x = undef ∧ (execOp ρ o).run P w = .ok .skip w')) ∧ Ext φ φ' ∧ VR φ' v x ∧ HR B φ' h' w' ∧ Below B w w' ∧ K v h' = true := by
    intro b off len cap L n q l xs hL e h1 h2 hvs hput
    obtain ⟨h', w', g1, g2, g3, g4⟩ := putK_sound (P := P) hr hL hvs hput
    refine ⟨_, h', φ, _, w', .inl ?_, Ext.refl φ, .int _ _, g2, g3, g4⟩
    rw [wrap _ _ e, run_copy h0 hu hi h1 h2]
    simp only [g1, Result.andThen_ok]
  unfold fCopy2 at hk
  split at hk
  · obtain ⟨p, q, e, hp, hq⟩ := args2 hc hv
    have := hp.nils_inv; subst this
    have := hq.nils_inv; subst this
    exact none_ none 0 0 0 _ e rfl rfl rfl hk
  · obtain ⟨p, q, e, hp, hq⟩ := args2 hc hv
    have := hp.nils_inv; subst this
    obtain ⟨s, rfl, _, _⟩ := hq.str_inv
    exact none_ none 0 0 s.size _ e rfl (Nat.min_zero _) (fc0 _ (.inl ⟨_, rfl⟩)) hk
  · rename_i b off len ee oc
    obtain ⟨p, q, e, hp, hq⟩ := args2 hc hv
    have := hp.nils_inv; subst this
    obtain ⟨bb, ll, cc, rfl⟩ : ∃ b l c, q = .slice b l c := by
      rcases hq.slice_inv with ⟨L, cap, _, _, _, _, rfl⟩ | ⟨a, L, _, _, _, rfl⟩ <;> exact ⟨_, _, _, rfl⟩
    exact none_ none 0 0 ll _ e rfl (Nat.min_zero _) (fc0 _ (.inr ⟨_, _, _, rfl⟩)) hk
  · rename_i b off len ee oc
    obtain ⟨p, q, e, hp, hq⟩ := args2 hc hv
    have := hq.nils_inv; subst this
    obtain ⟨bb, ll, cc, rfl⟩ : ∃ b l c, p = .slice b l c := by
      rcases hp.slice_inv with ⟨L, cap, _, _, _, _, rfl⟩ | ⟨a, L, _, _, _, rfl⟩ <;> exact ⟨_, _, _, rfl⟩
    exact none_ bb ll cc 0 _ e rfl (Nat.zero_min _) rfl hk
  · rename_i b off len ee oc n cd
    obtain ⟨p, q, e, hp, hq⟩ := args2 hc hv
    obtain ⟨s, rfl, hs, hs'⟩ := hq.str_inv
    have hsz := size_of_dec hs
    have hlo : (Builtin.lenOf (.string s)).run P w = .ok n w := by simp only [Builtin.lenOf]; rw [hsz]; rfl
    rw [minK_eq] at hk
    rcases posK_true hk with ⟨hm, hk⟩ | ⟨hm, hk⟩
    · rcases hp.slice_inv with ⟨L, cap, hL, hcs, hlen, hoc, rfl⟩ | ⟨a, L, hL, hl0, hoc, rfl⟩
      · exact none_ _ len cap n _ e hlo hm (fc0 _ (.inl ⟨_, rfl⟩)) hk
      · exact none_ _ 0 0 n _ e hlo (Nat.min_zero _) (fc0 _ (.inl ⟨_, rfl⟩)) hk
    · obtain ⟨h1, hk⟩ := bif_true hk
      obtain ⟨h1, h2⟩ := Bool.and_eq_true_iff.1 h1
      have h2 := Nat.eq_of_beq_eq_true h2
      rw [natK_eq] at hk
      rcases hp.slice_inv with ⟨L, cap, hL, hcs, hlen, hoc, rfl⟩ | ⟨a, L, hL, hl0, hoc, rfl⟩
      · have hmn : Nat.min n len ≤ n := Nat.min_le_left _ _
        have hb : Nat.shiftRight cd (8 * (n - Nat.min n len)) < 256 ^ Nat.min n len := by
          rw [shr_eq]
          rw [Nat.div_lt_iff_lt_mul (Nat.pow_pos (by decide)), ← Nat.pow_add]
          rw [show Nat.min n len + (n - Nat.min n len) = n by omega]; exact hs'
        obtain ⟨l, g1, g2, _⟩ := decK_true (φ := φ) hb hk
        refine some_ b off len cap L n _ l ((dec (Nat.min n len) (Nat.shiftRight cd (8 * (n - Nat.min n len)))).map byteVal).toArray hL e hlo ?_ (by simpa using g1) g2
        simp only [Builtin.firstCells, Sem.run_pure]
        congr 1
        apply Array.ext'
        rw [Array.toList_map, ByteArray.data_extract, Array.toList_extract, List.extract_eq_take_drop, List.drop_zero, Nat.sub_zero, hs, shr_eq]
        have := dec_slice n 0 (Nat.min n len) cd (Nat.zero_le _) hmn
        rw [List.drop_zero, Nat.sub_zero] at this
        rw [this]
        rfl
      · exact absurd (by rw [hl0] at hm; exact hm (Nat.min_zero _)) (fun h => h)
  · rename_i b off len ee oc b2 off2 n e2 oc2
    obtain ⟨p, q, e, hp, hq⟩ := args2 hc hv
    rw [minK_eq] at hk
    obtain ⟨qb, qc, hqv⟩ : ∃ b c, q = .slice b n c := by
      rcases hq.slice_inv with ⟨L, cap, _, _, _, _, rfl⟩ | ⟨a, L, _, h0, _, rfl⟩
      · exact ⟨_, _, rfl⟩
      · subst h0; exact ⟨_, _, rfl⟩
    have hlo : (Builtin.lenOf q).run P w = .ok n w := by rw [hqv]; rfl
    rcases posK_true hk with ⟨hm, hk⟩ | ⟨hm, hk⟩
    · rcases hp.slice_inv with ⟨L, cap, hL, hcs, hlen, hoc, rfl⟩ | ⟨a, L, hL, hl0, hoc, rfl⟩
      · exact none_ _ len cap n _ e hlo hm (fc0 _ (.inr ⟨_, _, _, hqv⟩)) hk
      · exact none_ _ 0 0 n _ e hlo (Nat.min_zero _) (fc0 _ (.inr ⟨_, _, _, hqv⟩)) hk
    · obtain ⟨h1, hk⟩ := bif_true hk
      obtain ⟨h1, h2⟩ := Bool.and_eq_true_iff.1 h1
      have h1 := Nat.eq_of_beq_eq_true h1
      have h2 := Nat.eq_of_beq_eq_true h2
      obtain ⟨k, hb, hl, hk⟩ := blkK_true hk
      obtain ⟨h3, hk⟩ := bif_true hk
      have h3 := ble_of h3
      rcases hp.slice_inv with ⟨L, cap, hL, hcs, hlen, hoc, rfl⟩ | ⟨a, L, hL, hl0, hoc, rfl⟩
      · rcases hq.slice_inv with ⟨L2, cap2, hL2, hcs2, hlen2, hoc2, rfl⟩ | ⟨a2, L2, hL2, hl02, hoc2, rfl⟩
        · obtain ⟨l, xs, g3, g4, g5, g6⟩ := rowK_sound (hr.hold b2 L2 k hL2 hb hl) h3 hk
          have hlenx : xs.length = Nat.min n len * ie.size := by rw [← g4.length, g3]
          refine some_ b off len cap L n _ l xs.toArray hL e hlo ?_ (by simpa using g4) g6
          have hrun := run_loadCells_list (P := P) w (⟨L2.blk, L2.base + off2, none⟩ : Addr) xs (fun j v hj => by rw [addr_add', Nat.add_assoc]; exact g5 j v hj)
          rw [hlenx] at hrun
          exact hrun
        · exact absurd (by rw [hl02] at hm; exact hm (Nat.zero_min _)) (fun h => h)
      · exact absurd (by rw [hl0] at hm; exact hm (Nat.min_zero _)) (fun h => h)
  · exact absurd hk (by simp)
end Go.Ev
end
